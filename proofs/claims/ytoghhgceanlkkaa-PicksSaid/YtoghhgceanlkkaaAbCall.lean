/- Calls: what is handed over, what comes back. No condition. -/
import Derived.Test.YtoghhgceanlkkaaAbPack
set_option linter.unusedVariables false
set_option linter.unusedSimpArgs false
namespace Go.Ab
open Go

def lookC (v : Val) (k : D → List Tok → Prog) : Prog :=
  match v with
  | .d x => k x []
  | .ref t l => .getT t fun e => match e with
    | .row true nl _ sz xs => k (.sl sz nl (takeL l xs) (dropL l xs)) [t]
    | .row false nl _ sz xs => k (.sl sz nl (takeL l xs) (dropL l xs)) []
    | _ => .fail
  | _ => .fail
def lookCs : List Val → (List D → List Tok → Prog) → Prog
  | [], k => k [] []
  | v :: vs, k => lookC v fun x t => lookCs vs fun xs ts => k (x :: xs) (t ++ ts)
mutual
/-- A value that is handed to a call: rows of the call's own are looked at alone; variables are lent. -/
def argV (v : Val) (k : IV → List Tok → List Tok → Prog) : Prog :=
  match v with
  | .d x => k (.d x) [] []
  | .ref t l => lookC (.ref t l) fun x ts => k (.d x) ts []
  | .agg cs => lookCs cs fun xs ts => k (.d (.agg xs)) ts []
  | .dptr xs => k (.dptr xs) [] []
  | .ptr t off => .getT t fun e => match e with
    | .dbox ty cells => k (.dbox ty off cells) [] [t]
    | .box ty cells => freezeL cells fun ds => .getT t fun e2 => match e2 with
      | .box _ _ => .putT t (.dbox ty ds) (k (.dbox ty off ds) [] [t])
      | _ => .fail
    | _ => .fail
  | .fn f caps => argL caps fun ivs ts bx => k (.fn f ivs) ts bx
  | .dead => k .dead [] []
  | _ => .fail
def argL (vs : List Val) (k : List IV → List Tok → List Tok → Prog) : Prog :=
  match vs with
  | [] => k [] [] []
  | v :: vs => argV v fun iv ts bx => argL vs fun ivs ts' bx' => k (iv :: ivs) (ts ++ ts') (bx ++ bx')
end

section
variable {X : Cx} {E : Ev} {C : Caller}

def AllFz (σ : St) (ts : List Tok) : Prop := ∀ t ∈ ts, ∃ nl e sz xs, σ.getT t = .row false nl e sz xs
def AllRow (σ : St) (ts : List Tok) : Prop := ∀ t ∈ ts, ∃ m nl e sz xs, σ.getT t = .row m nl e sz xs
def AllBox (σ : St) (ts : List Tok) : Prop := ∀ t ∈ ts, ∃ ty cells, σ.getT t = .dbox ty cells
theorem AllRow.ext {σ σ' : St} {ts : List Tok} (h : AllRow σ ts) (he : Ext σ σ') : AllRow σ' ts := fun t ht => by
  obtain ⟨m, nl, e, sz, xs, h1⟩ := h t ht
  cases m with
  | true => obtain ⟨m, h2⟩ := he.row1 _ _ _ _ _ h1; exact ⟨m, nl, e, sz, xs, h2⟩
  | false => exact ⟨false, nl, e, sz, xs, he.row0 _ _ _ _ _ h1⟩
theorem AllBox.ext {σ σ' : St} {ts : List Tok} (h : AllBox σ ts) (he : Ext σ σ') : AllBox σ' ts := fun t ht => by
  obtain ⟨ty, cells, h1⟩ := h t ht
  exact ⟨ty, cells, he.dbox _ _ _ h1⟩
theorem lookC_run {H : Fz} {L : Vl} {σ σ' : St} {a : Act} {w : World} (r : Rel X H L σ a w) {v : Val} {u : Value} (hv : v.Rep H L u) {K : D → List Tok → Prog} (h : (lookC v K).run C σ = some σ') :
    ∃ x ts, (K x ts).run C σ = some σ' ∧ AllRow σ ts ∧ (v.isCell = true → x.isAgg = false) ∧ ∀ H2 σ2, H.le H2 → Rel X H2 L σ2 a w → Ext σ σ2 → AllFz σ2 ts → x.RepV H2 u := by
  unfold lookC at h
  split at h
  · rename_i x
    unfold Val.Rep at hv
    exact ⟨x, [], h, by simp [AllRow], fun hc => by simpa [Val.isCell] using hc, fun H2 σ2 h1 _ _ _ => D.RepV.le h1 hv⟩
  · rename_i t l
    simp only [Prog.run] at h
    split at h
    · rename_i nl e sz xs ht
      refine ⟨_, _, h, fun t' ht' => ?_, fun _ => rfl, fun H2 σ2 h1 h2 h3 h4 => ?_⟩
      · simp at ht'; subst ht'; exact ⟨true, nl, e, sz, xs, ht⟩
      · obtain ⟨m, hm⟩ := h3.row1 _ _ _ _ _ ht
        obtain ⟨nl', e', sz', xs', hm'⟩ := h4 t (by simp)
        rw [hm] at hm'
        cases hm'
        have he := h2.ents t
        rw [hm] at he
        have hv2 := Val.Rep.le h1 (Vl.le_refl L) _ _ hv
        exact frozen_rep he hv2 (ref_le he hv2)
    · rename_i nl e sz xs ht
      refine ⟨_, _, h, by simp [AllRow], fun _ => rfl, fun H2 σ2 h1 h2 h3 h4 => ?_⟩
      have hm := h3.row0 _ _ _ _ _ ht
      have he := h2.ents t
      rw [hm] at he
      have hv2 := Val.Rep.le h1 (Vl.le_refl L) _ _ hv
      exact frozen_rep he hv2 (ref_le he hv2)
    · exact (fail_run h).elim
  · exact (fail_run h).elim
theorem lookCs_run {H : Fz} {L : Vl} {σ σ' : St} {a : Act} {w : World} (r : Rel X H L σ a w) : ∀ (vs : List Val) {us : List Value} {K : List D → List Tok → Prog}, Val.RepL H L vs us → (∀ v ∈ vs, v.isCell = true) → (lookCs vs K).run C σ = some σ' →
    ∃ xs ts, (K xs ts).run C σ = some σ' ∧ AllRow σ ts ∧ (∀ x ∈ xs, x.isAgg = false) ∧ ∀ H2 σ2, H.le H2 → Rel X H2 L σ2 a w → Ext σ σ2 → AllFz σ2 ts → D.RepL H2 xs us
  | [], us, K, hv, _, h => by
    unfold Val.RepL at hv; subst hv
    exact ⟨[], [], h, by simp [AllRow], by simp, fun _ _ _ _ _ _ => by unfold D.RepL; rfl⟩
  | v :: vs, us, K, hv, hc, h => by
    unfold Val.RepL at hv
    obtain ⟨u, us', rfl, h1, h2⟩ := hv
    unfold lookCs at h
    obtain ⟨x, t1, g1, g2, g3, g4⟩ := lookC_run r h1 h
    obtain ⟨xs, t2, k1, k2, k3, k4⟩ := lookCs_run r vs h2 (fun v' hv' => hc v' (by simp [hv'])) g1
    have hx := g3 (hc v (by simp))
    refine ⟨x :: xs, t1 ++ t2, k1, fun t ht => ?_, fun y hy => ?_, fun H2 σ2 j1 j2 j3 j4 => ?_⟩
    · rcases List.mem_append.1 ht with ht | ht
      · exact g2 t ht
      · exact k2 t ht
    · rcases List.mem_cons.1 hy with rfl | hy
      · exact hx
      · exact k3 y hy
    · have q1 := g4 H2 σ2 j1 j2 j3 (fun t ht => j4 t (List.mem_append_left _ ht))
      have q2 := k4 H2 σ2 j1 j2 j3 (fun t ht => j4 t (List.mem_append_right _ ht))
      unfold D.RepL
      refine ⟨[u], us', rfl, ?_, q2⟩
      cases x <;> first | (simp [D.isAgg] at hx; done) | exact q1

/-- Ext, but for a variable that is told by data from here on. -/
theorem Ext.unbox {σ : St} {t : Tok} {ty ty' : TypeId} {cells : List Val} (ht : σ.getT t = .box ty cells) (ds : List D) : Ext σ (σ.putT t (.dbox ty' ds)) := ⟨fun u nl e sz xs hu => by
    rw [St.getT_putT]
    by_cases h : t = u
    · subst h; rw [ht] at hu; cases hu
    · rw [if_neg h]; exact ⟨true, hu⟩, fun u nl e sz xs hu => by
    rw [St.getT_putT]
    by_cases h : t = u
    · subst h; rw [ht] at hu; cases hu
    · rw [if_neg h]; exact hu, fun u ty cells hu => by
    rw [St.getT_putT]
    by_cases h : t = u
    · subst h; rw [ht] at hu; cases hu
    · rw [if_neg h]; exact hu⟩
mutual
theorem argV_run {L : Vl} {σ' : St} {a : Act} {w : World} : ∀ (v : Val) {H : Fz} {σ : St} {u : Value} {K : IV → List Tok → List Tok → Prog}, Rel X H L σ a w → v.Rep H L u → (argV v K).run C σ = some σ' →
    ∃ iv ts bx H1 σ1, (K iv ts bx).run C σ1 = some σ' ∧ H.le H1 ∧ Rel X H1 L σ1 a w ∧ Ext σ σ1 ∧ AllRow σ1 ts ∧ AllBox σ1 bx ∧ ∀ H2 σ2, H1.le H2 → Rel X H2 L σ2 a w → Ext σ1 σ2 → AllFz σ2 ts → IV.Rep H2 w iv u (blks σ2 L bx)
  | .dead, H, σ, u, K, r, hv, h => by
    unfold argV at h
    exact ⟨_, _, _, H, σ, h, Fz.le_refl H, r, Ext.refl σ, by simp [AllRow], by simp [AllBox], fun _ _ _ _ _ _ => by unfold IV.Rep; simp [blks]⟩
  | .und, _, _, _, _, _, _, h => by unfold argV at h; exact (fail_run h).elim
  | .eptr _ _ _ _, _, _, _, _, _, _, h => by unfold argV at h; exact (fail_run h).elim
  | .tup _, _, _, _, _, _, _, h => by unfold argV at h; exact (fail_run h).elim
  | .d x, H, σ, u, K, r, hv, h => by
    unfold argV at h
    unfold Val.Rep at hv
    exact ⟨_, _, _, H, σ, h, Fz.le_refl H, r, Ext.refl σ, by simp [AllRow], by simp [AllBox], fun H2 σ2 h1 _ _ _ => by unfold IV.Rep; exact ⟨D.RepV.le h1 hv, by simp [blks]⟩⟩
  | .dptr xs, H, σ, u, K, r, hv, h => by
    unfold argV at h
    exact ⟨_, _, _, H, σ, h, Fz.le_refl H, r, Ext.refl σ, by simp [AllRow], by simp [AllBox], fun H2 σ2 h1 _ _ _ => by
      have hv2 := Val.Rep.le h1 (Vl.le_refl L) _ _ hv
      unfold Val.Rep at hv2
      unfold IV.Rep; exact ⟨hv2, by simp [blks]⟩⟩
  | .ref t l, H, σ, u, K, r, hv, h => by
    unfold argV at h
    obtain ⟨x, ts, h1, h2, h3, h4⟩ := lookC_run r hv h
    exact ⟨_, _, _, H, σ, h1, Fz.le_refl H, r, Ext.refl σ, h2, by simp [AllBox], fun H2 σ2 j1 j2 j3 j4 => by unfold IV.Rep; exact ⟨h4 H2 σ2 j1 j2 j3 j4, by simp [blks]⟩⟩
  | .agg cs, H, σ, u, K, r, hv, h => by
    unfold argV at h
    unfold Val.Rep at hv
    obtain ⟨arr, e1, g1, g2⟩ := hv
    obtain ⟨xs, ts, h1, h2, h3, h4⟩ := lookCs_run r cs g1 g2 h
    refine ⟨_, _, _, H, σ, h1, Fz.le_refl H, r, Ext.refl σ, h2, by simp [AllBox], fun H2 σ2 j1 j2 j3 j4 => ?_⟩
    unfold IV.Rep
    refine ⟨⟨arr, e1, ?_⟩, by simp [blks]⟩
    unfold D.Rep
    exact ⟨h4 H2 σ2 j1 j2 j3 j4, h3⟩
  | .ptr t off, H, σ, u, K, r, hv, h => by
    unfold argV at h
    simp only [Prog.run] at h
    split at h
    · rename_i ty cells ht
      refine ⟨_, _, _, H, σ, h, Fz.le_refl H, r, Ext.refl σ, by simp [AllRow], fun t' ht' => ?_, fun H2 σ2 j1 j2 j3 j4 => ?_⟩
      · simp at ht'; subst ht'; exact ⟨ty, cells, ht⟩
      · exact pack_dbox j2 (Val.Rep.le j1 (Vl.le_refl L) _ _ hv) (j3.dbox _ _ _ ht)
    · rename_i ty cells ht
      have he := r.ents t
      rw [ht] at he
      obtain ⟨b, cur, g1, g2, g3, g4, g5, g6⟩ := he
      obtain ⟨ds, H1, σ1, k1, k2, k3, k4, k5, k6⟩ := freezeL_run (H := H) cells r g3 g4 h
      simp only [Prog.run] at k1
      split at k1
      · rename_i ty2 cells2 ht2
        have he2 := k3.ents t
        rw [ht2] at he2
        obtain ⟨b2, cur2, q1, q2, q3, q4, q5, q6⟩ := he2
        rw [g1] at q1
        simp only [Option.some.injEq, Value.pointer.injEq, Addr.mk.injEq, and_true] at q1
        subst q1
        have hm : mutBlk (σ1.getT t) (L t) = some b := by rw [ht2, g1]; rfl
        have r3 : Rel X H1 L (σ1.putT t (.dbox ty ds)) a w := k3.write (e := .dbox ty ds) hm ⟨rfl, rfl, rfl, Nat.le_refl _, fun _ _ _ => rfl⟩ ⟨b, cur, g1, g2, k4, k5, q5, q6⟩ (by rw [g1]; rfl)
        refine ⟨_, _, _, H1, _, k1, k2, r3, k6.trans (Ext.unbox ht2 ds), by simp [AllRow], fun t' ht' => ?_, fun H2 σ2 j1 j2 j3 j4 => ?_⟩
        · simp at ht'; subst ht'; exact ⟨ty, ds, by rw [St.getT_putT, if_pos rfl]⟩
        · exact pack_dbox j2 (Val.Rep.le (Fz.le_trans k2 j1) (Vl.le_refl L) _ _ hv) (j3.dbox _ _ _ (by rw [St.getT_putT, if_pos rfl]))
      · exact (fail_run k1).elim
    · exact (fail_run h).elim
  | .fn f caps, H, σ, u, K, r, hv, h => by
    unfold argV at h
    unfold Val.Rep at hv
    obtain ⟨arr, e1, g1⟩ := hv
    obtain ⟨ivs, ts, bx, H1, σ1, k1, k2, k3, k4, k5, k6, k7⟩ := argL_run caps r g1 h
    refine ⟨_, _, _, H1, σ1, k1, k2, k3, k4, k5, k6, fun H2 σ2 j1 j2 j3 j4 => ?_⟩
    unfold IV.Rep
    exact ⟨arr, e1, k7 H2 σ2 j1 j2 j3 j4⟩
theorem argL_run {L : Vl} {σ' : St} {a : Act} {w : World} : ∀ (vs : List Val) {H : Fz} {σ : St} {us : List Value} {K : List IV → List Tok → List Tok → Prog}, Rel X H L σ a w → Val.RepL H L vs us → (argL vs K).run C σ = some σ' →
    ∃ ivs ts bx H1 σ1, (K ivs ts bx).run C σ1 = some σ' ∧ H.le H1 ∧ Rel X H1 L σ1 a w ∧ Ext σ σ1 ∧ AllRow σ1 ts ∧ AllBox σ1 bx ∧ ∀ H2 σ2, H1.le H2 → Rel X H2 L σ2 a w → Ext σ1 σ2 → AllFz σ2 ts → IV.RepL H2 w ivs us (blks σ2 L bx)
  | [], H, σ, us, K, r, hv, h => by
    unfold argL at h
    unfold Val.RepL at hv
    subst hv
    exact ⟨[], [], [], H, σ, h, Fz.le_refl H, r, Ext.refl σ, by simp [AllRow], by simp [AllBox], fun _ _ _ _ _ _ => by unfold IV.RepL; simp [blks]⟩
  | v :: vs, H, σ, us, K, r, hv, h => by
    unfold argL at h
    unfold Val.RepL at hv
    obtain ⟨u, us', rfl, g1, g2⟩ := hv
    obtain ⟨iv, t1, b1, H1, σ1, k1, k2, k3, k4, k5, k6, k7⟩ := argV_run v r g1 h
    obtain ⟨ivs, t2, b2, H2, σ2, m1, m2, m3, m4, m5, m6, m7⟩ := argL_run vs k3 (Val.RepL.le k2 (Vl.le_refl L) _ _ g2) k1
    refine ⟨iv :: ivs, t1 ++ t2, b1 ++ b2, H2, σ2, m1, Fz.le_trans k2 m2, m3, k4.trans m4, fun t ht => ?_, fun t ht => ?_, fun H3 σ3 j1 j2 j3 j4 => ?_⟩
    · rcases List.mem_append.1 ht with ht | ht
      · exact (k5.ext m4) t ht
      · exact m5 t ht
    · rcases List.mem_append.1 ht with ht | ht
      · exact (k6.ext m4) t ht
      · exact m6 t ht
    · unfold IV.RepL
      rw [blks_append]
      exact ⟨u, us', _, _, rfl, rfl, k7 H3 σ3 (Fz.le_trans m2 j1) j2 (m4.trans j3) (fun t ht => j4 t (List.mem_append_left _ ht)), m7 H3 σ3 j1 j2 j3 (fun t ht => j4 t (List.mem_append_right _ ht))⟩
end
/-- All rows that were looked at are never written again. -/
theorem freezeT_ext : ∀ (ts : List Tok) (σ : St), Ext σ (freezeT σ ts) ∧ (AllRow σ ts → AllFz (freezeT σ ts) ts)
  | [], σ => ⟨Ext.refl σ, fun _ => by simp [AllFz]⟩
  | t :: ts, σ => by
    unfold freezeT
    split
    · rename_i nl e sz xs ht
      have ih := freezeT_ext ts (σ.putT t (.row false nl e sz xs))
      refine ⟨(Ext.freeze ht).trans ih.1, fun h t' ht' => ?_⟩
      have h2 : AllRow (σ.putT t (.row false nl e sz xs)) ts := AllRow.ext (fun u hu => h u (List.mem_cons_of_mem _ hu)) (Ext.freeze ht)
      rcases List.mem_cons.1 ht' with rfl | ht'
      · exact ⟨nl, e, sz, xs, ih.1.row0 _ _ _ _ _ (by rw [St.getT_putT, if_pos rfl])⟩
      · exact ih.2 h2 t' ht'
    · rename_i hn
      have ih := freezeT_ext ts σ
      refine ⟨ih.1, fun h t' ht' => ?_⟩
      rcases List.mem_cons.1 ht' with rfl | ht'
      · obtain ⟨m, nl, e, sz, xs, h1⟩ := h t' (by simp)
        cases m with
        | true => exact (hn nl e sz xs h1).elim
        | false => exact ⟨nl, e, sz, xs, ih.1.row0 _ _ _ _ _ h1⟩
      · exact ih.2 (fun u hu => h u (List.mem_cons_of_mem _ hu)) t' ht'
end
end Go.Ab
