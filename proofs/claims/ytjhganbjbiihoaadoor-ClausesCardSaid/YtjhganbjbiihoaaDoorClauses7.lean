/- Calls: what is handed over, what comes back. No condition. -/
import Derived.Test.YtjhganbjbiihoaaDoorClauses0
import Derived.Test.YtjhganbjbiihoaaDoorClauses1
import Derived.Test.YtjhganbjbiihoaaDoorClauses2
import Derived.Test.YtjhganbjbiihoaaDoorClauses3
import Derived.Test.YtjhganbjbiihoaaDoorClauses4
import Derived.Test.YtjhganbjbiihoaaDoorClauses5
import Derived.Test.YtjhganbjbiihoaaDoorClauses6
set_option linter.unusedVariables false
set_option linter.unusedSimpArgs false
namespace Go.Ab
open Go

def lookC (v : Val) (k : D → List Tok → Prog) : Prog :=
  match v with
  | .d x => k x []
  | .ref t l => .getT t fun e => match e with
    | .row true nl _ sz xs => k (.sl sz nl (takeL l xs) (dropL l xs)) [t]
    | .row false nl _ sz xs => k (.sl sz nl (takeL l xs) (dropL l xs)) []
    | _ => .fail
  | _ => .fail
def lookCs : List Val → (List D → List Tok → Prog) → Prog
  | [], k => k [] []
  | v :: vs, k => lookC v fun x t => lookCs vs fun xs ts => k (x :: xs) (t ++ ts)
/-- The cells of a variable that is handed over with its rows. -/
def ownCs : List Val → (List IV → List Tok → Prog) → Prog
  | [], k => k [] []
  | v :: vs, k => match v with
    | .d x => ownCs vs fun ivs bx => k (.d x :: ivs) bx
    | .ref t none => .getT t fun e => match e with
      | .row true nl e sz xs => ownCs vs fun ivs bx => k (.own nl e sz xs :: ivs) (t :: bx)
      | .row false nl _ sz xs => ownCs vs fun ivs bx => k (.d (.sl sz nl xs []) :: ivs) bx
      | _ => .fail
    | _ => .fail
mutual
/-- A value that is handed to a call: rows of the call's own are looked at alone; variables are lent. -/
def argV (o : Bool) (v : Val) (k : IV → List Tok → List Tok → Prog) : Prog :=
  match v with
  | .d x => k (.d x) [] []
  | .ref t l => match o, l with
    | true, none => .getT t fun e => match e with
      | .row true nl e sz xs => k (.own nl e sz xs) [] [t]
      | _ => lookC (.ref t none) fun x ts => k (.d x) ts []
    | _, l => lookC (.ref t l) fun x ts => k (.d x) ts []
  | .agg cs => lookCs cs fun xs ts => k (.d (.agg xs)) ts []
  | .dptr xs => k (.dptr xs) [] []
  | .ptr t off => .getT t fun e => match e with
    | .dbox ty cells => k (.dbox ty off cells) [] [t]
    | .box ty cells => match o with
      | true => ownCs cells fun ivs bx => k (.ptr ty off ivs) [] (t :: bx)
      | false => freezeL cells fun ds => .getT t fun e2 => match e2 with
        | .box _ _ => .putT t (.dbox ty ds) (k (.dbox ty off ds) [] [t])
        | _ => .fail
    | _ => .fail
  | .fn f caps => argL o caps fun ivs ts bx => k (.fn f ivs) ts bx
  | .dead => k .dead [] []
  | _ => .fail
def argL (o : Bool) (vs : List Val) (k : List IV → List Tok → List Tok → Prog) : Prog :=
  match vs with
  | [] => k [] [] []
  | v :: vs => argV o v fun iv ts bx => argL o vs fun ivs ts' bx' => k (iv :: ivs) (ts ++ ts') (bx ++ bx')
end

section
variable {X : Cx} {E : Ev} {C : Caller}

def AllFz (σ : St) (ts : List Tok) : Prop := ∀ t ∈ ts, ∃ nl e sz xs, σ.getT t = .row false nl e sz xs
def AllRow (σ : St) (ts : List Tok) : Prop := ∀ t ∈ ts, ∃ m nl e sz xs, σ.getT t = .row m nl e sz xs
def AllBox (σ : St) (ts : List Tok) : Prop := ∀ t ∈ ts, (∃ ty cells, σ.getT t = .dbox ty cells) ∨ (∃ ty cells, σ.getT t = .box ty cells) ∨ ∃ m nl e sz xs, σ.getT t = .row m nl e sz xs
/-- What is a variable stays one. -/
def Boxed (σ σ' : St) : Prop := ∀ t ty cells, σ.getT t = .box ty cells → σ'.getT t = .box ty cells
def Live (σ : St) (ts : List Tok) : Prop := ∀ t ∈ ts, ∀ nl e sz xs, σ.getT t ≠ .row false nl e sz xs
theorem AllRow.ext {σ σ' : St} {ts : List Tok} (h : AllRow σ ts) (he : Ext σ σ') : AllRow σ' ts := fun t ht => by
  obtain ⟨m, nl, e, sz, xs, h1⟩ := h t ht
  cases m with
  | true => obtain ⟨m, h2⟩ := he.row1 _ _ _ _ _ h1; exact ⟨m, nl, e, sz, xs, h2⟩
  | false => exact ⟨false, nl, e, sz, xs, he.row0 _ _ _ _ _ h1⟩
theorem AllBox.ext {σ σ' : St} {ts : List Tok} (h : AllBox σ ts) (he : Ext σ σ') : AllBox σ' ts := fun t ht => by
  rcases h t ht with ⟨ty, cells, h1⟩ | ⟨ty, cells, h1⟩ | ⟨m, nl, e, sz, xs, h1⟩
  · exact .inl ⟨ty, cells, he.dbox _ _ _ h1⟩
  · rcases he.box _ _ _ h1 with h2 | ⟨ty', ds, h2⟩
    · exact .inr (.inl ⟨ty, cells, h2⟩)
    · exact .inl ⟨ty', ds, h2⟩
  · cases m with
    | true => obtain ⟨m, h2⟩ := he.row1 _ _ _ _ _ h1; exact .inr (.inr ⟨m, nl, e, sz, xs, h2⟩)
    | false => exact .inr (.inr ⟨false, nl, e, sz, xs, he.row0 _ _ _ _ _ h1⟩)
theorem lookC_run {H : Fz} {L : Vl} {σ σ' : St} {a : Act} {w : World} (r : Rel X H L σ a w) {v : Val} {u : Value} (hv : v.Rep H L u) {K : D → List Tok → Prog} (h : (lookC v K).run C σ = some σ') :
    ∃ x ts, (K x ts).run C σ = some σ' ∧ AllRow σ ts ∧ (v.isCell = true → x.isAgg = false) ∧ ∀ H2 σ2, H.le H2 → Rel X H2 L σ2 a w → Ext σ σ2 → AllFz σ2 ts → x.RepV H2 u := by
  unfold lookC at h
  split at h
  · rename_i x
    unfold Val.Rep at hv
    exact ⟨x, [], h, by simp [AllRow], fun hc => by simpa [Val.isCell] using hc, fun H2 σ2 h1 _ _ _ => D.RepV.le h1 hv⟩
  · rename_i t l
    simp only [Prog.run] at h
    split at h
    · rename_i nl e sz xs ht
      refine ⟨_, _, h, fun t' ht' => ?_, fun _ => rfl, fun H2 σ2 h1 h2 h3 h4 => ?_⟩
      · simp at ht'; subst ht'; exact ⟨true, nl, e, sz, xs, ht⟩
      · obtain ⟨m, hm⟩ := h3.row1 _ _ _ _ _ ht
        obtain ⟨nl', e', sz', xs', hm'⟩ := h4 t (by simp)
        rw [hm] at hm'
        cases hm'
        have he := h2.ents t
        rw [hm] at he
        have hv2 := Val.Rep.le h1 (Vl.le_refl L) _ _ hv
        exact frozen_rep he hv2 (ref_le he hv2)
    · rename_i nl e sz xs ht
      refine ⟨_, _, h, by simp [AllRow], fun _ => rfl, fun H2 σ2 h1 h2 h3 h4 => ?_⟩
      have hm := h3.row0 _ _ _ _ _ ht
      have he := h2.ents t
      rw [hm] at he
      have hv2 := Val.Rep.le h1 (Vl.le_refl L) _ _ hv
      exact frozen_rep he hv2 (ref_le he hv2)
    · exact (fail_run h).elim
  · exact (fail_run h).elim
theorem lookCs_run {H : Fz} {L : Vl} {σ σ' : St} {a : Act} {w : World} (r : Rel X H L σ a w) : ∀ (vs : List Val) {us : List Value} {K : List D → List Tok → Prog}, Val.RepL H L vs us → (∀ v ∈ vs, v.isCell = true) → (lookCs vs K).run C σ = some σ' →
    ∃ xs ts, (K xs ts).run C σ = some σ' ∧ AllRow σ ts ∧ (∀ x ∈ xs, x.isAgg = false) ∧ ∀ H2 σ2, H.le H2 → Rel X H2 L σ2 a w → Ext σ σ2 → AllFz σ2 ts → D.RepL H2 xs us
  | [], us, K, hv, _, h => by
    unfold Val.RepL at hv; subst hv
    exact ⟨[], [], h, by simp [AllRow], by simp, fun _ _ _ _ _ _ => by unfold D.RepL; rfl⟩
  | v :: vs, us, K, hv, hc, h => by
    unfold Val.RepL at hv
    obtain ⟨u, us', rfl, h1, h2⟩ := hv
    unfold lookCs at h
    obtain ⟨x, t1, g1, g2, g3, g4⟩ := lookC_run r h1 h
    obtain ⟨xs, t2, k1, k2, k3, k4⟩ := lookCs_run r vs h2 (fun v' hv' => hc v' (by simp [hv'])) g1
    have hx := g3 (hc v (by simp))
    refine ⟨x :: xs, t1 ++ t2, k1, fun t ht => ?_, fun y hy => ?_, fun H2 σ2 j1 j2 j3 j4 => ?_⟩
    · rcases List.mem_append.1 ht with ht | ht
      · exact g2 t ht
      · exact k2 t ht
    · rcases List.mem_cons.1 hy with rfl | hy
      · exact hx
      · exact k3 y hy
    · have q1 := g4 H2 σ2 j1 j2 j3 (fun t ht => j4 t (List.mem_append_left _ ht))
      have q2 := k4 H2 σ2 j1 j2 j3 (fun t ht => j4 t (List.mem_append_right _ ht))
      unfold D.RepL
      refine ⟨[u], us', rfl, ?_, q2⟩
      cases x <;> first | (simp [D.isAgg] at hx; done) | exact q1

/-- Ext, but for a variable that is told by data from here on. -/
theorem Ext.unbox {σ : St} {t : Tok} {ty ty' : TypeId} {cells : List Val} (ht : σ.getT t = .box ty cells) (ds : List D) : Ext σ (σ.putT t (.dbox ty' ds)) := ⟨fun u nl e sz xs hu => by
    rw [St.getT_putT]
    by_cases h : t = u
    · subst h; rw [ht] at hu; cases hu
    · rw [if_neg h]; exact ⟨true, hu⟩, fun u nl e sz xs hu => by
    rw [St.getT_putT]
    by_cases h : t = u
    · subst h; rw [ht] at hu; cases hu
    · rw [if_neg h]; exact hu, fun u ty cells hu => by
    rw [St.getT_putT]
    by_cases h : t = u
    · subst h; rw [ht] at hu; cases hu
    · rw [if_neg h]; exact hu, fun u ty2 cells2 hu => by
    rw [St.getT_putT]
    by_cases h : t = u
    · subst h; exact .inr ⟨_, _, if_pos rfl⟩
    · rw [if_neg h]; exact .inl hu⟩
theorem ownCs_run {L : Vl} {σ σ' : St} {a : Act} {w : World} : ∀ (vs : List Val) {K : List IV → List Tok → Prog}, (ownCs vs K).run C σ = some σ' →
    ∃ ivs bx, (K ivs bx).run C σ = some σ' ∧ AllBox σ bx ∧ ∀ H2 σ2 us, Rel X H2 L σ2 a w → Ext σ σ2 → Live σ2 bx → Val.RepL H2 L vs us → IV.RepL H2 w ivs us (blks σ2 L bx)
  | [], K, h => ⟨[], [], h, by simp [AllBox], fun H2 σ2 us _ _ _ hv => by
    unfold Val.RepL at hv; subst hv
    unfold IV.RepL; simp [blks]⟩
  | v :: vs, K, h => by
    unfold ownCs at h
    split at h
    · rename_i x
      obtain ⟨ivs, bx, h1, h2, h3⟩ := ownCs_run vs h
      refine ⟨_, _, h1, h2, fun H2 σ2 us j1 j2 j3 hv => ?_⟩
      unfold Val.RepL at hv
      obtain ⟨u, us', rfl, g1, g2⟩ := hv
      unfold Val.Rep at g1
      unfold IV.RepL
      exact ⟨u, us', [], _, rfl, by simp, by unfold IV.Rep; exact ⟨g1, rfl⟩, h3 H2 σ2 us' j1 j2 j3 g2⟩
    · rename_i t
      simp only [Prog.run] at h
      split at h
      · rename_i nl e sz xs ht
        obtain ⟨ivs, bx, h1, h2, h3⟩ := ownCs_run vs h
        refine ⟨_, _, h1, fun t' ht' => ?_, fun H2 σ2 us j1 j2 j3 hv => ?_⟩
        · rcases List.mem_cons.1 ht' with rfl | ht'
          · exact .inr (.inr ⟨true, nl, e, sz, xs, ht⟩)
          · exact h2 t' ht'
        · unfold Val.RepL at hv
          obtain ⟨u, us', rfl, g1, g2⟩ := hv
          have hp := pack_ref j1 g1
          obtain ⟨m, hm⟩ := j2.row1 _ _ _ _ _ ht
          have hmt : m = true := by
            cases m with
            | true => rfl
            | false => exact absurd hm (j3 t (by simp) _ _ _ _)
          subst hmt
          rw [hm] at hp
          unfold IV.RepL
          refine ⟨u, us', blks σ2 L [t], blks σ2 L bx, rfl, ?_, hp, h3 H2 σ2 us' j1 j2 (fun t' ht' => j3 t' (by simp [ht'])) g2⟩
          rw [← blks_append]; rfl
      · rename_i nl e sz xs ht
        obtain ⟨ivs, bx, h1, h2, h3⟩ := ownCs_run vs h
        refine ⟨_, _, h1, h2, fun H2 σ2 us j1 j2 j3 hv => ?_⟩
        unfold Val.RepL at hv
        obtain ⟨u, us', rfl, g1, g2⟩ := hv
        have hp := pack_ref j1 g1
        rw [j2.row0 _ _ _ _ _ ht] at hp
        unfold IV.RepL
        exact ⟨u, us', [], _, rfl, by simp, hp, h3 H2 σ2 us' j1 j2 j3 g2⟩
      · exact (fail_run h).elim
    · exact (fail_run h).elim
mutual
theorem argV_run {o : Bool} {L : Vl} {σ' : St} {a : Act} {w : World} : ∀ (v : Val) {H : Fz} {σ : St} {u : Value} {K : IV → List Tok → List Tok → Prog}, Rel X H L σ a w → v.Rep H L u → (argV o v K).run C σ = some σ' →
    ∃ iv ts bx H1 σ1, (K iv ts bx).run C σ1 = some σ' ∧ H.le H1 ∧ Rel X H1 L σ1 a w ∧ Ext σ σ1 ∧ AllRow σ1 ts ∧ AllBox σ1 bx ∧ (o = true → σ1 = σ) ∧ ∀ H2 σ2, H1.le H2 → Rel X H2 L σ2 a w → Ext σ1 σ2 → (o = true → Boxed σ1 σ2) → AllFz σ2 ts → Live σ2 bx → IV.Rep H2 w iv u (blks σ2 L bx)
  | .dead, H, σ, u, K, r, hv, h => by
    unfold argV at h
    exact ⟨_, _, _, H, σ, h, Fz.le_refl H, r, Ext.refl σ, by simp [AllRow], by simp [AllBox], fun _ => rfl, fun _ _ _ _ _ _ _ _ => by unfold IV.Rep; simp [blks]⟩
  | .und, _, _, _, _, _, _, h => by unfold argV at h; exact (fail_run h).elim
  | .cell, _, _, _, _, _, _, h => by unfold argV at h; exact (fail_run h).elim
  | .eptr _ _ _ _, _, _, _, _, _, _, h => by unfold argV at h; exact (fail_run h).elim
  | .tail _ _ _, _, _, _, _, _, _, h => by unfold argV at h; exact (fail_run h).elim
  | .tup _, _, _, _, _, _, _, h => by unfold argV at h; exact (fail_run h).elim
  | .d x, H, σ, u, K, r, hv, h => by
    unfold argV at h
    unfold Val.Rep at hv
    exact ⟨_, _, _, H, σ, h, Fz.le_refl H, r, Ext.refl σ, by simp [AllRow], by simp [AllBox], fun _ => rfl, fun H2 σ2 h1 _ _ _ _ _ => by unfold IV.Rep; exact ⟨D.RepV.le h1 hv, by simp [blks]⟩⟩
  | .dptr xs, H, σ, u, K, r, hv, h => by
    unfold argV at h
    exact ⟨_, _, _, H, σ, h, Fz.le_refl H, r, Ext.refl σ, by simp [AllRow], by simp [AllBox], fun _ => rfl, fun H2 σ2 h1 _ _ _ _ _ => by
      have hv2 := Val.Rep.le h1 (Vl.le_refl L) _ _ hv
      unfold Val.Rep at hv2
      unfold IV.Rep; exact ⟨hv2, by simp [blks]⟩⟩
  | .ref t l, H, σ, u, K, r, hv, h => by
    unfold argV at h
    split at h
    · simp only [Prog.run] at h
      split at h
      · rename_i nl e sz xs ht
        refine ⟨_, _, _, H, σ, h, Fz.le_refl H, r, Ext.refl σ, by simp [AllRow], fun t' ht' => ?_, fun _ => rfl, fun H2 σ2 j1 j2 j3 j3' j4 j5 => ?_⟩
        · simp at ht'; subst ht'; exact .inr (.inr ⟨true, nl, e, sz, xs, ht⟩)
        · obtain ⟨m, hm⟩ := j3.row1 _ _ _ _ _ ht
          cases m with
          | false => exact absurd hm (j5 _ (by simp) _ _ _ _)
          | true =>
            have hp := pack_ref j2 (Val.Rep.le j1 (Vl.le_refl L) _ _ hv)
            rw [hm] at hp
            exact hp
      · obtain ⟨x, ts, h1, h2, h3, h4⟩ := lookC_run r hv h
        exact ⟨_, _, _, H, σ, h1, Fz.le_refl H, r, Ext.refl σ, h2, by simp [AllBox], fun _ => rfl, fun H2 σ2 j1 j2 j3 _ j4 _ => by unfold IV.Rep; exact ⟨h4 H2 σ2 j1 j2 j3 j4, by simp [blks]⟩⟩
    · obtain ⟨x, ts, h1, h2, h3, h4⟩ := lookC_run r hv h
      exact ⟨_, _, _, H, σ, h1, Fz.le_refl H, r, Ext.refl σ, h2, by simp [AllBox], fun _ => rfl, fun H2 σ2 j1 j2 j3 _ j4 _ => by unfold IV.Rep; exact ⟨h4 H2 σ2 j1 j2 j3 j4, by simp [blks]⟩⟩
  | .agg cs, H, σ, u, K, r, hv, h => by
    unfold argV at h
    unfold Val.Rep at hv
    obtain ⟨arr, e1, g1, g2⟩ := hv
    obtain ⟨xs, ts, h1, h2, h3, h4⟩ := lookCs_run r cs g1 g2 h
    refine ⟨_, _, _, H, σ, h1, Fz.le_refl H, r, Ext.refl σ, h2, by simp [AllBox], fun _ => rfl, fun H2 σ2 j1 j2 j3 _ j4 j5 => ?_⟩
    unfold IV.Rep
    refine ⟨⟨arr, e1, ?_⟩, by simp [blks]⟩
    unfold D.Rep
    exact ⟨h4 H2 σ2 j1 j2 j3 j4, h3⟩
  | .ptr t off, H, σ, u, K, r, hv, h => by
    unfold argV at h
    simp only [Prog.run] at h
    split at h
    · rename_i ty cells ht
      refine ⟨_, _, _, H, σ, h, Fz.le_refl H, r, Ext.refl σ, by simp [AllRow], fun t' ht' => ?_, fun _ => rfl, fun H2 σ2 j1 j2 j3 j3' j4 j5 => ?_⟩
      · simp at ht'; subst ht'; exact .inl ⟨ty, cells, ht⟩
      · exact pack_dbox j2 (Val.Rep.le j1 (Vl.le_refl L) _ _ hv) (j3.dbox _ _ _ ht)
    · rename_i ty cells ht
      cases o with
      | true =>
        dsimp only at h
        obtain ⟨ivs, bx, k1, k2, k3⟩ := ownCs_run (X := X) (L := L) (a := a) (w := w) cells h
        refine ⟨_, _, _, H, σ, k1, Fz.le_refl H, r, Ext.refl σ, by simp [AllRow], fun t' ht' => ?_, fun _ => rfl, fun H2 σ2 j1 j2 j3 j3' j4 j5 => ?_⟩
        · rcases List.mem_cons.1 ht' with rfl | ht'
          · exact .inr (.inl ⟨ty, cells, ht⟩)
          · exact k2 t' ht'
        · have hb := j3' rfl t ty cells ht
          have he := j2.ents t
          rw [hb] at he
          obtain ⟨b, cur, g1, g2, g3, g4, _⟩ := he
          have hv2 := Val.Rep.le j1 (Vl.le_refl L) _ _ hv
          unfold Val.Rep at hv2
          obtain ⟨b', q1, rfl⟩ := hv2
          rw [g1] at q1
          simp only [Option.some.injEq, Value.pointer.injEq, Addr.mk.injEq, and_true] at q1
          subst q1
          unfold IV.Rep
          refine ⟨b, cur, blks σ2 L bx, rfl, g2, k3 H2 σ2 _ j2 j3 (fun t' ht' => j5 t' (by simp [ht'])) g3, Val.RepL.one g3 g4, ?_⟩
          simp [blks, hb, g1, mutBlk]
      | false =>
        dsimp only at h
        have he := r.ents t
        rw [ht] at he
        obtain ⟨b, cur, g1, g2, g3, g4, g5, g6⟩ := he
        obtain ⟨ds, H1, σ1, k1, k2, k3, k4, k5, k6⟩ := freezeL_run (H := H) cells r g3 g4 h
        simp only [Prog.run] at k1
        split at k1
        · rename_i ty2 cells2 ht2
          have he2 := k3.ents t
          rw [ht2] at he2
          obtain ⟨b2, cur2, q1, q2, q3, q4, q5, q6⟩ := he2
          rw [g1] at q1
          simp only [Option.some.injEq, Value.pointer.injEq, Addr.mk.injEq, and_true] at q1
          subst q1
          have hm : mutBlk (σ1.getT t) (L t) = some b := by rw [ht2, g1]; rfl
          have r3 : Rel X H1 L (σ1.putT t (.dbox ty ds)) a w := k3.write (e := .dbox ty ds) hm ⟨rfl, rfl, rfl, Nat.le_refl _, fun _ _ _ => rfl⟩ ⟨b, cur, g1, g2, k4, k5, q5, q6⟩ (by rw [g1]; rfl)
          refine ⟨_, _, _, H1, _, k1, k2, r3, k6.trans (Ext.unbox ht2 ds), by simp [AllRow], fun t' ht' => ?_, fun e => (nomatch e), fun H2 σ2 j1 j2 j3 j3' j4 j5 => ?_⟩
          · simp at ht'; subst ht'; exact .inl ⟨ty, ds, by rw [St.getT_putT, if_pos rfl]⟩
          · exact pack_dbox j2 (Val.Rep.le (Fz.le_trans k2 j1) (Vl.le_refl L) _ _ hv) (j3.dbox _ _ _ (by rw [St.getT_putT, if_pos rfl]))
        · exact (fail_run k1).elim
    · exact (fail_run h).elim
  | .fn f caps, H, σ, u, K, r, hv, h => by
    unfold argV at h
    unfold Val.Rep at hv
    obtain ⟨arr, e1, g1⟩ := hv
    obtain ⟨ivs, ts, bx, H1, σ1, k1, k2, k3, k4, k5, k6, k8, k7⟩ := argL_run caps r g1 h
    refine ⟨_, _, _, H1, σ1, k1, k2, k3, k4, k5, k6, k8, fun H2 σ2 j1 j2 j3 j3' j4 j5 => ?_⟩
    unfold IV.Rep
    exact ⟨arr, e1, k7 H2 σ2 j1 j2 j3 j3' j4 j5⟩
theorem argL_run {o : Bool} {L : Vl} {σ' : St} {a : Act} {w : World} : ∀ (vs : List Val) {H : Fz} {σ : St} {us : List Value} {K : List IV → List Tok → List Tok → Prog}, Rel X H L σ a w → Val.RepL H L vs us → (argL o vs K).run C σ = some σ' →
    ∃ ivs ts bx H1 σ1, (K ivs ts bx).run C σ1 = some σ' ∧ H.le H1 ∧ Rel X H1 L σ1 a w ∧ Ext σ σ1 ∧ AllRow σ1 ts ∧ AllBox σ1 bx ∧ (o = true → σ1 = σ) ∧ ∀ H2 σ2, H1.le H2 → Rel X H2 L σ2 a w → Ext σ1 σ2 → (o = true → Boxed σ1 σ2) → AllFz σ2 ts → Live σ2 bx → IV.RepL H2 w ivs us (blks σ2 L bx)
  | [], H, σ, us, K, r, hv, h => by
    unfold argL at h
    unfold Val.RepL at hv
    subst hv
    exact ⟨[], [], [], H, σ, h, Fz.le_refl H, r, Ext.refl σ, by simp [AllRow], by simp [AllBox], fun _ => rfl, fun _ _ _ _ _ _ _ _ => by unfold IV.RepL; simp [blks]⟩
  | v :: vs, H, σ, us, K, r, hv, h => by
    unfold argL at h
    unfold Val.RepL at hv
    obtain ⟨u, us', rfl, g1, g2⟩ := hv
    obtain ⟨iv, t1, b1, H1, σ1, k1, k2, k3, k4, k5, k6, k8, k7⟩ := argV_run v r g1 h
    obtain ⟨ivs, t2, b2, H2, σ2, m1, m2, m3, m4, m5, m6, m8, m7⟩ := argL_run vs k3 (Val.RepL.le k2 (Vl.le_refl L) _ _ g2) k1
    refine ⟨iv :: ivs, t1 ++ t2, b1 ++ b2, H2, σ2, m1, Fz.le_trans k2 m2, m3, k4.trans m4, fun t ht => ?_, fun t ht => ?_, fun e => (m8 e).trans (k8 e), fun H3 σ3 j1 j2 j3 j3' j4 j5 => ?_⟩
    · rcases List.mem_append.1 ht with ht | ht
      · exact (k5.ext m4) t ht
      · exact m5 t ht
    · rcases List.mem_append.1 ht with ht | ht
      · exact (k6.ext m4) t ht
      · exact m6 t ht
    · unfold IV.RepL
      rw [blks_append]
      exact ⟨u, us', _, _, rfl, rfl, k7 H3 σ3 (Fz.le_trans m2 j1) j2 (m4.trans j3) (fun e => by have := j3' e; rwa [m8 e] at this) (fun t ht => j4 t (List.mem_append_left _ ht)) (fun t ht => j5 t (List.mem_append_left _ ht)), m7 H3 σ3 j1 j2 j3 j3' (fun t ht => j4 t (List.mem_append_right _ ht)) (fun t ht => j5 t (List.mem_append_right _ ht))⟩
end
theorem getT_freezeT_not : ∀ (ts : List Tok) (σ : St) (t : Tok), t ∉ ts → (freezeT σ ts).getT t = σ.getT t
  | [], σ, t, _ => rfl
  | u :: ts, σ, t, h => by
    simp only [List.mem_cons, not_or] at h
    unfold freezeT
    split
    · rw [getT_freezeT_not ts _ t h.2, St.getT_putT, if_neg (fun e => h.1 e.symm)]
    · exact getT_freezeT_not ts σ t h.2
/-- All rows that were looked at are never written again. -/
theorem freezeT_ext : ∀ (ts : List Tok) (σ : St), Ext σ (freezeT σ ts) ∧ (AllRow σ ts → AllFz (freezeT σ ts) ts)
  | [], σ => ⟨Ext.refl σ, fun _ => by simp [AllFz]⟩
  | t :: ts, σ => by
    unfold freezeT
    split
    · rename_i nl e sz xs ht
      have ih := freezeT_ext ts (σ.putT t (.row false nl e sz xs))
      refine ⟨(Ext.freeze ht).trans ih.1, fun h t' ht' => ?_⟩
      have h2 : AllRow (σ.putT t (.row false nl e sz xs)) ts := AllRow.ext (fun u hu => h u (List.mem_cons_of_mem _ hu)) (Ext.freeze ht)
      rcases List.mem_cons.1 ht' with rfl | ht'
      · exact ⟨nl, e, sz, xs, ih.1.row0 _ _ _ _ _ (by rw [St.getT_putT, if_pos rfl])⟩
      · exact ih.2 h2 t' ht'
    · rename_i hn
      have ih := freezeT_ext ts σ
      refine ⟨ih.1, fun h t' ht' => ?_⟩
      rcases List.mem_cons.1 ht' with rfl | ht'
      · obtain ⟨m, nl, e, sz, xs, h1⟩ := h t' (by simp)
        cases m with
        | true => exact (hn nl e sz xs h1).elim
        | false => exact ⟨nl, e, sz, xs, ih.1.row0 _ _ _ _ _ h1⟩
      · exact ih.2 (fun u hu => h u (List.mem_cons_of_mem _ hu)) t' ht'
end
end Go.Ab

/- Calls: the operation. No condition. -/
set_option linter.unusedVariables false
set_option linter.unusedSimpArgs false
namespace Go.Ab
open Go

/-- A function that is entered when it is called. -/
def FnOk (P : Program) (f : FuncId) : Prop := ∃ fn, P.funcs[f]? = some fn ∧ (fn.name == "runtime.NumGoroutine") = false ∧ fn.body.isNone = false
/-- What the evaluator tells of a call is what the machine does. -/
def CallSpec (P : Program) (G : Globs) (f : FuncId) (args : List IV) (r : IV) (outs : List IV) : Prop :=
  ∀ (H : Fz) (w : World) (vs : List Value) (bs : List Nat), GlobOk H G → H.sub w → IV.RepL H w args vs bs → bs.Nodup → (∀ b ∈ bs, H b = none) →
    Calls P f vs.toArray w fun e w' => ∃ v H' b2 b3, e = .returned v ∧ H.le H' ∧ H'.sub w' ∧ Framed w bs w' ∧ (∀ k, k < w.heap.size → k ∉ bs → H' k = H k) ∧
      IV.RepL H' w' outs vs b3 ∧ IV.Rep H' w' r v b2 ∧ (b3 ++ b2).Nodup ∧ (∀ b ∈ b3, H' b = none ∧ (w.heap.size ≤ b ∨ b ∈ bs)) ∧ ∀ b ∈ b2, H' b = none ∧ (w.heap.size ≤ b ∨ b ∈ bs)

def freezeTs : List Tok → Prog → Prog
  | [], k => k
  | t :: ts, k => .getT t fun e => match e with
    | .row true nl e sz xs => .putT t (.row false nl e sz xs) (freezeTs ts k)
    | _ => freezeTs ts k
def putTs : List (Tok × Ent) → Prog → Prog
  | [], k => k
  | (t, e) :: r, k => .putT t e (putTs r k)
def St.putsT : St → List (Tok × Ent) → St
  | σ, [] => σ
  | σ, (t, e) :: r => (σ.putT t e).putsT r
def freshTs (t : Nat) : Nat → Prog → Prog
  | 0, k => k
  | n + 1, k => .getT (t, n) fun e => match e with | .fresh => freshTs t n k | _ => .fail
mutual
def updV (v : Val) (o : IV) : List (Tok × Ent) :=
  match v, o with
  | .ptr t _, .dbox ty _ cells => [(t, .dbox ty cells)]
  | .fn _ caps, .fn _ os => updL caps os
  | .ref t none, .dead => [(t, .gone)]
  | .ref t none, .own nl e sz xs => [(t, .row true nl e sz xs)]
  | _, _ => []
def updL (vs : List Val) (os : List IV) : List (Tok × Ent) :=
  match vs, os with
  | v :: vs, o :: os => updV v o ++ updL vs os
  | _, _ => []
end
/-- A variable that comes back with rows of its own: its token, and what it holds. -/
def ptrL : List Val → List IV → Option (Tok × TypeId × List IV)
  | [], _ => none
  | _, [] => none
  | v :: vs, o :: os => match v, o with
    | .ptr t _, .ptr ty _ cells => some (t, ty, cells)
    | _, _ => ptrL vs os
/-- What stands in slots and cells when a variable came back. -/
def backP (E : Ev) (o : Oper) (t : Tok) (ty : TypeId) (bx : List Tok) (r : Val × List (Tok × Ent) × Nat) : Prog :=
  match r.1 with
  | .tup [v, .tup cs] => .need ((cs.map cellC).all Val.isCell) (putTs (bx.map fun u => (u, Ent.gone)) (.putT t (.box ty (cs.map fun _ => Val.cell)) (freshTs (2 * o.dst.getD 1000000 + 1) r.2.2 (putTs r.2.1 (.putT t (.box ty (cs.map cellC)) (putD E o v))))))
  | _ => .fail
def D.scalar : D → Bool
  | .int _ _ => true
  | .bool _ => true
  | .flt _ _ => true
  | .cpx _ _ _ => true
  | .str _ => true
  | _ => false
mutual
def IV.scalar : IV → Bool
  | .d x => x.scalar
  | .tup vs => IV.scalarL vs
  | _ => false
def IV.scalarL : List IV → Bool
  | [] => true
  | c :: cs => IV.scalar c && IV.scalarL cs
end
mutual
def IV.val : IV → Val
  | .d x => .d x
  | .tup vs => .tup (IV.vals vs)
  | _ => .dead
def IV.vals : List IV → List Val
  | [] => []
  | c :: cs => IV.val c :: IV.vals cs
end
def fnOf : Val → Option (FuncId × List Val)
  | .d (.fn f) => some (f, [])
  | .fn f caps => some (f, caps)
  | _ => none

/-- What is handed over is not looked at beside, and not frozen. -/
def chkTs : List Tok → List Tok → Prog → Prog
  | [], _, k => k
  | t :: r, ts, k => .need (decide (t ∉ ts)) (.getT t fun e => match e with
    | .row false _ _ _ _ => .fail
    | _ => chkTs r ts k)
/-- Functions to which rows of the call's own are given away: entries of a function's cv at 4000000 + f; those to which they are lent, to be written: at 8000000 + f. -/
def gives : List (Nat × Cv) → FuncId → Bool
  | [], _ => false
  | (k, _) :: r, f => match Nat.beq k (4000000 + f) || Nat.beq k (8000000 + f) with
    | true => true
    | false => gives r f
def lends : List (Nat × Cv) → FuncId → Bool
  | [], _ => false
  | (k, _) :: r, f => match Nat.beq k (8000000 + f) with
    | true => true
    | false => lends r f
/-- A row that is lent. -/
def toL : IV → IV
  | .own nl e sz xs => .lrow nl e sz xs
  | .dead => .dead
  | .d x => .d x
  | .lrow nl e sz xs => .lrow nl e sz xs
  | .ptr ty off cells => .ptr ty off cells
  | .dbox ty off cells => .dbox ty off cells
  | .dptr xs => .dptr xs
  | .fn f caps => .fn f caps
  | .agg cs => .agg cs
  | .tup vs => .tup vs
def lendL : Bool → List IV → List IV
  | false, ivs => ivs
  | true, ivs => ivs.map toL
theorem toL_rep {H : Fz} {w : World} : ∀ (x : IV) {v : Value} {bs : List Nat}, IV.Rep H w x v bs → IV.Rep H w (toL x) v bs
  | .own nl e sz xs, v, bs, h => by unfold IV.Rep at h; unfold toL IV.Rep; exact h
  | .dead, v, bs, h => h
  | .d x, v, bs, h => h
  | .lrow nl e sz xs, v, bs, h => h
  | .ptr ty off cells, v, bs, h => h
  | .dbox ty off cells, v, bs, h => h
  | .dptr xs, v, bs, h => h
  | .fn f caps, v, bs, h => h
  | .agg cs, v, bs, h => h
  | .tup vs, v, bs, h => h
theorem lendL_rep {H : Fz} {w : World} (b : Bool) : ∀ {xs : List IV} {vs : List Value} {bs : List Nat}, IV.RepL H w xs vs bs → IV.RepL H w (lendL b xs) vs bs := by
  cases b with
  | false => exact fun h => h
  | true =>
    intro xs
    induction xs with
    | nil => exact fun h => h
    | cons x xs ih =>
      intro vs bs h
      unfold IV.RepL at h
      obtain ⟨v, r, b1, b2, rfl, rfl, h1, h2⟩ := h
      show IV.RepL H w (toL x :: xs.map toL) _ _
      unfold IV.RepL
      exact ⟨v, r, b1, b2, rfl, rfl, toL_rep x h1, ih h2⟩
def callP (E : Ev) (o : Oper) (fo : Operand) (args : List (TypeId × Operand)) : Prog :=
  opnd E.T E.G 0 fo fun fv => match fnOf fv with
    | none => .fail
    | some (f, caps) => opnds E.T E.G args fun vs => argL (gives E.cv f) (vs ++ caps) fun ivs ts bx => .need (decide bx.Nodup) (chkTs bx ts (.call f (lendL (lends E.cv f) ivs) fun r outs =>
        if r.scalar && bx.isEmpty then putD E o r.val
        else match ptrL (vs ++ caps) outs with
        | some (t, ty, cells) => freezeTs ts (.need (decide (t ∈ bx)) (backP E o t ty bx (unpackV (2 * o.dst.getD 1000000 + 1) (.tup [r, .tup cells]) 0)))
        | none => freezeTs ts (.need (decide ((updL (vs ++ caps) outs).map (·.1) = bx)) (putTs (updL (vs ++ caps) outs)
          (freshTs (2 * o.dst.getD 1000000 + 1) (unpackV (2 * o.dst.getD 1000000 + 1) r 0).2.2 (putTs (unpackV (2 * o.dst.getD 1000000 + 1) r 0).2.1 (putD E o (unpackV (2 * o.dst.getD 1000000 + 1) r 0).1)))))))

section
variable {X : Cx} {E : Ev} {C : Caller}

theorem freezeTs_run {σ' : St} : ∀ (ts : List Tok) {K : Prog} {σ : St}, (freezeTs ts K).run C σ = some σ' → K.run C (freezeT σ ts) = some σ'
  | [], K, σ, h => h
  | t :: ts, K, σ, h => by
    unfold freezeTs at h
    simp only [Prog.run] at h
    unfold freezeT
    split at h
    · rename_i nl e sz xs ht
      simp only [Prog.run] at h
      rw [ht]
      exact freezeTs_run ts h
    · rename_i hn
      split
      · rename_i nl e sz xs ht
        exact (hn _ _ _ _ ht).elim
      · exact freezeTs_run ts h
theorem chkTs_run {σ σ' : St} : ∀ (bx ts : List Tok) {K : Prog}, (chkTs bx ts K).run C σ = some σ' → K.run C σ = some σ' ∧ (∀ t ∈ bx, t ∉ ts) ∧ Live σ bx
  | [], ts, K, h => ⟨h, by simp, fun t ht => by simp at ht⟩
  | t :: r, ts, K, h => by
    unfold chkTs at h
    obtain ⟨h1, h2⟩ := need_run h
    have h1' : t ∉ ts := of_decide_eq_true h1
    simp only [Prog.run] at h2
    split at h2
    · exact (fail_run h2).elim
    · rename_i hn
      obtain ⟨h3, h4, h5⟩ := chkTs_run r ts h2
      refine ⟨h3, fun u hu => ?_, fun u hu nl e sz xs => ?_⟩
      · rcases List.mem_cons.1 hu with rfl | hu
        · exact h1'
        · exact h4 u hu
      · rcases List.mem_cons.1 hu with rfl | hu
        · exact hn nl e sz xs
        · exact h5 u hu nl e sz xs
theorem putTs_run {σ' : St} : ∀ (l : List (Tok × Ent)) {K : Prog} {σ : St}, (putTs l K).run C σ = some σ' → K.run C (σ.putsT l) = some σ'
  | [], K, σ, h => h
  | (t, e) :: l, K, σ, h => putTs_run l h
theorem freshTs_run {σ σ' : St} {t : Nat} : ∀ (n : Nat) {K : Prog}, (freshTs t n K).run C σ = some σ' → K.run C σ = some σ' ∧ ∀ j, j < n → σ.getT (t, j) = .fresh
  | 0, K, h => ⟨h, fun j hj => by omega⟩
  | n + 1, K, h => by
    unfold freshTs at h
    simp only [Prog.run] at h
    split at h
    · rename_i ht
      obtain ⟨h1, h2⟩ := freshTs_run n h
      exact ⟨h1, fun j hj => by
        by_cases e : j = n
        · subst e; exact ht
        · exact h2 j (by omega)⟩
    · exact (fail_run h).elim
theorem getS_putsT : ∀ (l : List (Tok × Ent)) (σ : St) (i : Nat), (σ.putsT l).getS i = σ.getS i
  | [], σ, i => rfl
  | (t, e) :: l, σ, i => getS_putsT l (σ.putT t e) i
theorem getT_putsT_not : ∀ (l : List (Tok × Ent)) (σ : St) (t : Tok), t ∉ l.map (·.1) → (σ.putsT l).getT t = σ.getT t
  | [], σ, t, _ => rfl
  | (u, e) :: l, σ, t, h => by
    simp only [List.map_cons, List.mem_cons, not_or] at h
    show ((σ.putT u e).putsT l).getT t = _
    rw [getT_putsT_not l _ t h.2, St.getT_putT, if_neg (fun e => h.1 e.symm)]
theorem getT_putsT_mem : ∀ {l : List (Tok × Ent)} {σ : St} {t : Tok} {e : Ent}, (l.map (·.1)).Nodup → (t, e) ∈ l → (σ.putsT l).getT t = e
  | [], σ, t, e, _, h => by simp at h
  | (u, e') :: l, σ, t, e, hn, h => by
    simp only [List.map_cons, List.nodup_cons] at hn
    show ((σ.putT u e').putsT l).getT t = _
    rcases List.mem_cons.1 h with h | h
    · cases h
      rw [getT_putsT_not l _ _ hn.1, St.getT_putT, if_pos rfl]
    · exact getT_putsT_mem hn.2 h

theorem D.scalar_rep {H H' : Fz} : ∀ (x : D) {vs : List Value}, x.scalar = true → D.Rep H x vs → D.Rep H' x vs
  | .int _ _, _, _, h => h
  | .bool _, _, _, h => h
  | .flt _ _, _, _, h => h
  | .cpx _ _ _, _, _, h => h
  | .str _, _, _, h => h
  | .agg cs, vs, hs, h => by simp [D.scalar] at hs
  | .sl _ _ _ _, _, hs, _ => by simp [D.scalar] at hs
  | .nilp, _, hs, _ => by simp [D.scalar] at hs
  | .fn _, _, hs, _ => by simp [D.scalar] at hs
  | .nilf, _, hs, _ => by simp [D.scalar] at hs
theorem D.scalar_repV {H H' : Fz} {x : D} {v : Value} (hs : x.scalar = true) (h : x.RepV H v) : x.RepV H' v := by
  cases x <;> first
    | (obtain ⟨arr, h1, h2⟩ := h; exact ⟨arr, h1, D.scalar_rep (H := H) _ hs h2⟩)
    | exact D.scalar_rep (H := H) _ hs h
mutual
theorem IV.scalar_rep {H H' : Fz} {L : Vl} {w : World} : ∀ (x : IV) {v : Value} {bs : List Nat}, x.scalar = true → IV.Rep H w x v bs → (IV.val x).Rep H' L v
  | .d x, v, bs, hs, h => by
    unfold IV.Rep at h
    unfold IV.scalar at hs
    unfold IV.val Val.Rep
    exact D.scalar_repV hs h.1
  | .tup vs, v, bs, hs, h => by
    unfold IV.Rep at h
    unfold IV.scalar at hs
    obtain ⟨arr, h1, h2⟩ := h
    unfold IV.val Val.Rep
    exact ⟨arr, h1, IV.scalarL_rep vs hs h2⟩
  | .dead, _, _, hs, _ => by simp [IV.scalar] at hs
  | .own _ _ _ _, _, _, hs, _ => by simp [IV.scalar] at hs
  | .lrow _ _ _ _, _, _, hs, _ => by simp [IV.scalar] at hs
  | .ptr _ _ _, _, _, hs, _ => by simp [IV.scalar] at hs
  | .dbox _ _ _, _, _, hs, _ => by simp [IV.scalar] at hs
  | .dptr _, _, _, hs, _ => by simp [IV.scalar] at hs
  | .fn _ _, _, _, hs, _ => by simp [IV.scalar] at hs
  | .agg _, _, _, hs, _ => by simp [IV.scalar] at hs
theorem IV.scalarL_rep {H H' : Fz} {L : Vl} {w : World} : ∀ (xs : List IV) {vs : List Value} {bs : List Nat}, IV.scalarL xs = true → IV.RepL H w xs vs bs → Val.RepL H' L (IV.vals xs) vs
  | [], vs, bs, _, h => by
    unfold IV.RepL at h
    obtain ⟨rfl, _⟩ := h
    unfold IV.vals Val.RepL; rfl
  | x :: xs, vs, bs, hs, h => by
    unfold IV.RepL at h
    unfold IV.scalarL at hs
    simp only [Bool.and_eq_true] at hs
    obtain ⟨v, r, b1, b2, rfl, rfl, h1, h2⟩ := h
    unfold IV.vals Val.RepL
    exact ⟨v, r, rfl, IV.scalar_rep x hs.1 h1, IV.scalarL_rep xs hs.2 h2⟩
end

/-- A row that comes back. -/
def RowBack (H' : Fz) (L : Vl) (w' : World) (t : Tok) (e : Ent) (bs : List Nat) : Prop :=
  ∃ nl e1 sz xs v cells, e = .row true nl e1 sz xs ∧ L t = some v ∧ (∃ A n c, v = .slice A n c) ∧ w'.ownsRow 0 e1 sz v xs.length cells ∧ D.RepL H' xs cells ∧ (∀ x ∈ xs, x.width = sz) ∧ (nl = true ↔ v = .slice none 0 0) ∧ ∀ b ∈ v.ownBlock.toList, b ∈ bs
mutual
/-- Variables that come back. -/
theorem updV_rep {H H' : Fz} {L : Vl} {w' : World} : ∀ (v : Val) {o : IV} {u : Value} {bs : List Nat}, v.Rep H L u → IV.Rep H' w' o u bs → ∀ t e, (t, e) ∈ updV v o → e = .gone ∨ (∃ b cur ty cells, e = .dbox ty cells ∧ L t = some (.pointer (some ⟨b, 0, none⟩)) ∧ w'.heap[b]? = some (.cells cur ty (0, 0)) ∧ D.RepL H' cells cur.toList ∧ (∀ c ∈ cells, c.isAgg = false) ∧ b ∈ bs) ∨ RowBack H' L w' t e bs
  | .ptr t off, o, u, bs, hv, ho, t', e, hm => by
    unfold updV at hm
    split at hm
    · rename_i t1 _ ty _ cells heq
      cases heq
      simp at hm
      obtain ⟨rfl, rfl⟩ := hm
      unfold Val.Rep at hv
      obtain ⟨b, h1, rfl⟩ := hv
      unfold IV.Rep at ho
      obtain ⟨b', cur, h2, h3, h4, h5, h6⟩ := ho
      simp only [Value.pointer.injEq, Option.some.injEq, Addr.mk.injEq, and_true] at h2
      obtain ⟨rfl, _⟩ := h2
      exact .inr (.inl ⟨b, cur, ty, cells, rfl, h1, h3, h4, h5, by rw [h6]; simp⟩)
    · rename_i heq; cases heq
    · rename_i heq; cases heq
    · rename_i heq; cases heq
    · simp at hm
  | .fn f caps, o, u, bs, hv, ho, t', e, hm => by
    unfold updV at hm
    split at hm
    · rename_i heq; cases heq
    · rename_i f1 caps1 f2 os heq
      cases heq
      unfold Val.Rep at hv
      obtain ⟨arr, h1, h2⟩ := hv
      unfold IV.Rep at ho
      obtain ⟨arr', h3, h4⟩ := ho
      rw [h1] at h3
      simp only [Value.func.injEq, true_and] at h3
      obtain ⟨_, rfl⟩ := h3
      exact updL_rep caps h2 h4 t' e hm
    · rename_i heq; cases heq
    · rename_i heq; cases heq
    · simp at hm
  | .dead, o, _, _, _, _, _, _, hm => by unfold updV at hm; simp at hm
  | .und, o, _, _, _, _, _, _, hm => by unfold updV at hm; simp at hm
  | .cell, o, _, _, _, _, _, _, hm => by unfold updV at hm; simp at hm
  | .d _, o, _, _, _, _, _, _, hm => by unfold updV at hm; simp at hm
  | .ref t l, o, u, bs, hv, ho, t', e', hm => by
    unfold updV at hm
    split at hm
    · exact Val.noConfusion ‹Val.ref _ _ = Val.ptr _ _›
    · exact Val.noConfusion ‹Val.ref _ _ = Val.fn _ _›
    · simp at hm; exact .inl hm.2
    · rename_i t1 nl e1 sz xs heq
      cases heq
      simp only [List.mem_singleton, Prod.mk.injEq] at hm
      obtain ⟨rfl, rfl⟩ := hm
      unfold Val.Rep at hv
      unfold IV.Rep at ho
      obtain ⟨cells, g1, g2, g3, g4, g5⟩ := ho
      exact .inr (.inr ⟨nl, e1, sz, xs, u, cells, rfl, hv.1, hv.2, g1, g2, g3, g4, fun b hb => by rw [g5]; exact hb⟩)
    · simp at hm
  | .eptr _ _ _ _, o, _, _, _, _, _, _, hm => by unfold updV at hm; simp at hm
  | .tail _ _ _, o, _, _, _, _, _, _, hm => by unfold updV at hm; simp at hm
  | .dptr _, o, _, _, _, _, _, _, hm => by unfold updV at hm; simp at hm
  | .agg _, o, _, _, _, _, _, _, hm => by unfold updV at hm; simp at hm
  | .tup _, o, _, _, _, _, _, _, hm => by unfold updV at hm; simp at hm
theorem updL_rep {H H' : Fz} {L : Vl} {w' : World} : ∀ (vs : List Val) {os : List IV} {us : List Value} {bs : List Nat}, Val.RepL H L vs us → IV.RepL H' w' os us bs → ∀ t e, (t, e) ∈ updL vs os → e = .gone ∨ (∃ b cur ty cells, e = .dbox ty cells ∧ L t = some (.pointer (some ⟨b, 0, none⟩)) ∧ w'.heap[b]? = some (.cells cur ty (0, 0)) ∧ D.RepL H' cells cur.toList ∧ (∀ c ∈ cells, c.isAgg = false) ∧ b ∈ bs) ∨ RowBack H' L w' t e bs
  | [], os, us, bs, hv, ho, t, e, hm => by cases os <;> simp [updL] at hm
  | v :: vs, os, us, bs, hv, ho, t, e, hm => by
    cases os with
    | nil => simp [updL] at hm
    | cons o os =>
      unfold updL at hm
      unfold Val.RepL at hv
      obtain ⟨u, us', rfl, h1, h2⟩ := hv
      unfold IV.RepL at ho
      obtain ⟨u2, us2, b1, b2, he, rfl, h3, h4⟩ := ho
      simp only [List.cons.injEq] at he
      obtain ⟨rfl, rfl⟩ := he
      rcases List.mem_append.1 hm with hm | hm
      · rcases updV_rep v h1 h3 t e hm with h | ⟨b, cur, ty, cells, g1, g2, g3, g4, g5, g6⟩ | ⟨nl, e1, sz, xs, v1, cells, g1, g2, g3, g4, g5, g6, g7, g8⟩
        · exact .inl h
        · exact .inr (.inl ⟨b, cur, ty, cells, g1, g2, g3, g4, g5, List.mem_append_left _ g6⟩)
        · exact .inr (.inr ⟨nl, e1, sz, xs, v1, cells, g1, g2, g3, g4, g5, g6, g7, fun b hb => List.mem_append_left _ (g8 b hb)⟩)
      · rcases updL_rep vs h2 h4 t e hm with h | ⟨b, cur, ty, cells, g1, g2, g3, g4, g5, g6⟩ | ⟨nl, e1, sz, xs, v1, cells, g1, g2, g3, g4, g5, g6, g7, g8⟩
        · exact .inl h
        · exact .inr (.inl ⟨b, cur, ty, cells, g1, g2, g3, g4, g5, List.mem_append_right _ g6⟩)
        · exact .inr (.inr ⟨nl, e1, sz, xs, v1, cells, g1, g2, g3, g4, g5, g6, g7, fun b hb => List.mem_append_right _ (g8 b hb)⟩)
end
/-- A variable that comes back with rows of its own. -/
theorem ptrL_rep {H H' : Fz} {L : Vl} {w' : World} {t : Tok} {ty : TypeId} {cells : List IV} : ∀ (vs : List Val) {os : List IV} {us : List Value} {bs : List Nat}, Val.RepL H L vs us → IV.RepL H' w' os us bs → ptrL vs os = some (t, ty, cells) → ∃ b cur bs', L t = some (.pointer (some ⟨b, 0, none⟩)) ∧ w'.heap[b]? = some (.cells cur ty (0, 0)) ∧ IV.RepL H' w' cells cur.toList bs' ∧ (∀ u ∈ cur.toList, u.oneCell' = true) ∧ (b :: bs').Sublist bs
  | [], os, us, bs, hv, ho, h => by unfold ptrL at h; cases h
  | v :: vs, [], us, bs, hv, ho, h => by unfold ptrL at h; cases h
  | v :: vs, o :: os, us, bs, hv, ho, h => by
    unfold Val.RepL at hv
    obtain ⟨u, us', rfl, h1, h2⟩ := hv
    unfold IV.RepL at ho
    obtain ⟨u2, us2, b1, b2, he, rfl, h3, h4⟩ := ho
    simp only [List.cons.injEq] at he
    obtain ⟨rfl, rfl⟩ := he
    unfold ptrL at h
    split at h
    · rename_i t1 off1 ty1 off2 cells1
      simp only [Option.some.injEq, Prod.mk.injEq] at h
      obtain ⟨rfl, rfl, rfl⟩ := h
      unfold Val.Rep at h1
      obtain ⟨b, g1, rfl⟩ := h1
      unfold IV.Rep at h3
      obtain ⟨b', cur, bs', e1, e2, e3, e4, rfl⟩ := h3
      simp only [Value.pointer.injEq, Option.some.injEq, Addr.mk.injEq, and_true] at e1
      obtain ⟨rfl, _⟩ := e1
      exact ⟨b, cur, bs', g1, e2, e3, e4, List.sublist_append_left _ _⟩
    · obtain ⟨b, cur, bs', g1, g2, g3, g4, g5⟩ := ptrL_rep vs h2 h4 h
      exact ⟨b, cur, bs', g1, g2, g3, g4, g5.trans (List.sublist_append_right _ _)⟩
theorem cells_len {H : Fz} {w : World} : ∀ {cells : List IV} {vs : List Value} {bs : List Nat}, IV.RepL H w cells vs bs → cells.length = vs.length
  | [], vs, bs, h => by unfold IV.RepL at h; rw [h.1]; rfl
  | c :: cs, vs, bs, h => by
    unfold IV.RepL at h
    obtain ⟨v, r, b1, b2, rfl, _, _, h2⟩ := h
    simp [cells_len h2]
theorem cellV_rep {H : Fz} {L : Vl} : ∀ {cells : List IV} {vs : List Value}, cells.length = vs.length → (∀ u ∈ vs, u.oneCell' = true) → Val.RepL H L (cells.map fun _ => Val.cell) vs
  | [], vs, h, _ => by
    cases vs with
    | nil => rw [List.map_nil]; unfold Val.RepL; rfl
    | cons v vs => simp at h
  | c :: cs, vs, h, ho => by
    cases vs with
    | nil => simp at h
    | cons v vs =>
      rw [List.map_cons]
      unfold Val.RepL
      exact ⟨v, vs, rfl, by unfold Val.Rep; exact ho v (by simp), cellV_rep (by simpa using h) (fun u hu => ho u (by simp [hu]))⟩
theorem freezeT_boxed : ∀ (ts : List Tok) (σ : St), Boxed σ (freezeT σ ts)
  | [], σ => fun _ _ _ h => h
  | t :: ts, σ => by
    unfold freezeT
    split
    · rename_i nl e sz xs ht
      intro u ty cells hu
      refine freezeT_boxed ts _ u ty cells ?_
      rw [St.getT_putT, if_neg (fun e => by subst e; rw [ht] at hu; cases hu)]; exact hu
    · exact freezeT_boxed ts σ
theorem getT_gone {σ : St} {u : Tok} : ∀ (bx : List Tok), u ∈ bx → ∀ σ : St, (σ.putsT (bx.map fun u => (u, Ent.gone))).getT u = .gone
  | [], h, _ => by simp at h
  | t :: bx, h, σ => by
    show ((σ.putT t .gone).putsT (bx.map fun u => (u, Ent.gone))).getT u = _
    by_cases hu : u ∈ bx
    · exact getT_gone (σ := σ) bx hu _
    · rw [getT_putsT_not _ _ u (by simpa using hu)]
      rcases List.mem_cons.1 h with rfl | h
      · rw [St.getT_putT, if_pos rfl]
      · exact absurd h hu
theorem Framed.then {w0 w w' : World} {o bs : List Nat} (h : Framed w0 o w) (h' : Framed w bs w') (hb : ∀ b ∈ bs, w0.heap.size ≤ b ∨ b ∈ o) : Framed w0 o w' :=
  ⟨h'.os.trans h.os, h'.tape.trans h.tape, h'.output.trans h.output, Nat.le_trans h.size h'.size, fun k hk hn => by
    refine (h'.block k (Nat.lt_of_lt_of_le hk h.size) (fun hm => ?_)).trans (h.block k hk hn)
    rcases hb k hm with h1 | h1
    · omega
    · exact hn h1⟩
/-- What a call made comes into the state. -/
theorem Rel.laid {H : Fz} {L L' : Vl} {σ : St} {a : Act} {w : World} (r : Rel X H L σ a w) {es : List (Tok × Ent)} {bs : List Nat} (h : Laid X H w L L' es bs) (hf : ∀ t ∈ es.map (·.1), σ.getT t = .fresh) (hb : ∀ b ∈ bs, ∀ t, mutBlk (σ.getT t) (L t) ≠ some b) : Rel X H L' (σ.putsT es) a w := by
  refine r.move (fun i => getS_putsT es σ i) h.le (Fz.le_refl H) r.sub r.fr r.sub (fun t => t ∈ es.map (·.1)) (fun t ht => ?_) (fun t b ht hm => ⟨rfl, ((r.ents t).lt hm).2.1⟩) (fun t ht => ?_) (fun t t' b ht hne hm => ?_)
  · refine ⟨getT_putsT_not es σ t ht, ?_⟩
    rcases h.key t with h1 | h1
    · exact h1
    · exact (ht h1).elim
  · obtain ⟨⟨u, e⟩, hm, rfl⟩ := List.mem_map.1 ht
    rw [getT_putsT_mem h.keys hm]
    exact h.inv _ _ hm
  · obtain ⟨⟨u, e⟩, hme, rfl⟩ := List.mem_map.1 ht
    rw [getT_putsT_mem h.keys hme] at hm
    by_cases ht' : t' ∈ es.map (·.1)
    · obtain ⟨⟨u', e'⟩, hme', rfl⟩ := List.mem_map.1 ht'
      rw [getT_putsT_mem h.keys hme']
      exact h.apart _ _ _ _ b hme hme' hne hm
    · rw [getT_putsT_not es σ t' ht']
      have h1 : L' t' = L t' := by
        rcases h.key t' with h1 | h1
        · exact h1
        · exact (ht' h1).elim
      rw [h1]
      exact hb b (h.blk _ _ b hme hm) t'
/-- The caller's word: what it tells of calls is what the machine does. -/
def CSound (P : Program) (G : Globs) (C : Caller) : Prop := ∀ f args r outs, C f args = some (r, outs) → FnOk P f ∧ CallSpec P G f args r outs
theorem GlobOk.le {H H' : Fz} {G : Globs} (h : GlobOk H G) (hl : H.le H') : GlobOk H' G := fun g cs hg => by
  obtain ⟨vs, h1, h2, h3, t, z, h4⟩ := h g cs hg
  exact ⟨vs, D.RepL.le hl _ _ h1, h2.le hl, h3, t, z, hl _ _ h4⟩
theorem fnOf_rep {H : Fz} {L : Vl} {v : Val} {u : Value} {f : FuncId} {caps : List Val} (hv : v.Rep H L u) (h : fnOf v = some (f, caps)) : ∃ arr, u = .func (.func f) #[] arr ∧ Val.RepL H L caps arr.toList := by
  unfold fnOf at h
  split at h
  · rename_i g
    simp only [Option.some.injEq, Prod.mk.injEq] at h
    obtain ⟨rfl, rfl⟩ := h
    unfold Val.Rep at hv
    simp only [D.RepV, D.Rep, List.cons.injEq, and_true] at hv
    exact ⟨#[], hv, by unfold Val.RepL; rfl⟩
  · rename_i g cs
    simp only [Option.some.injEq, Prod.mk.injEq] at h
    obtain ⟨rfl, rfl⟩ := h
    unfold Val.Rep at hv
    exact hv
  · cases h
theorem callP_ok (k : Cxk X E) (hC : CSound X.P E.G C) {o : Oper} {fo : Operand} {args : Array Operand} {tys : Array TypeId} {l : List (TypeId × Operand)} (hl : l.map (·.2) = args.toList) (ho : o.op = .call { callee := .value fo, args := args, argTypes := tys }) : OpOk X C o (callP E o fo l) := by
  intro H L σ a w σ' r h K Q hK
  obtain ⟨fv, h1, h2⟩ := opnd_run k r h
  split at h1
  · exact (fail_run h1).elim
  rename_i f caps hfn
  obtain ⟨cap, e1, hcap⟩ := fnOf_rep h2 hfn
  obtain ⟨vs, h3, h4⟩ := opnds_run k r _ h1
  have e2 : l.map (fun p => a.eval p.2) = (args.map a.eval).toList := by
    rw [Array.toList_map, ← hl, List.map_map]; rfl
  rw [e2] at h4
  have hall : Val.RepL H L (vs ++ caps) ((args.map a.eval).toList ++ cap.toList) := Val.RepL.append hcap h4
  obtain ⟨ivs, ts, bx, H1, σ1, k1, k2, k3, k4, k5, k6, _, k7⟩ := argL_run (vs ++ caps) r hall h3
  obtain ⟨hnd, k8a⟩ := need_run k1
  simp only [decide_eq_true_eq] at hnd
  obtain ⟨k8, hdis, hlive⟩ := chkTs_run bx ts k8a
  simp only [Prog.run] at k8
  cases hc : C f (lendL (lends E.cv f) ivs) with
  | none => rw [hc] at k8; cases k8
  | some p =>
    obtain ⟨res, outs⟩ := p
    rw [hc] at k8
    dsimp only at k8
    obtain ⟨⟨fn, hfn1, hfn2, hfn3⟩, hspec⟩ := hC f (lendL (lends E.cv f) ivs) res outs hc
    obtain ⟨H2, m1, r2⟩ := freezeT_rel ts k3
    have hext := freezeT_ext ts σ1
    have hfz := hext.2 k5
    have hbox := k6.ext hext.1
    have hlive2 : Live (freezeT σ1 ts) bx := fun t ht nl e sz xs => by rw [getT_freezeT_not ts σ1 t (hdis t ht)]; exact hlive t ht nl e sz xs
    have hargs := lendL_rep (lends E.cv f) (k7 H2 (freezeT σ1 ts) m1 r2 hext.1 (fun _ => freezeT_boxed ts σ1) hfz hlive2)
    have hbs := blks_ok r2 hnd
    have hcall := hspec H2 w _ _ (k.glob.le r2.le) r2.sub hargs hbs.1 (fun b hb => (hbs.2 b hb).1)
    have hex : (execOp a.eval o).run X.P w = .ok (.enter f ((args.map a.eval).toList ++ cap.toList).toArray) w := by
      have e3 : ((args.map a.eval).toList ++ cap.toList).toArray = args.map a.eval ++ cap := by simp
      rw [e3]
      have n2 : ¬ fn.name = "runtime.NumGoroutine" := by simpa using hfn2
      have n3 : ¬ fn.body = none := by intro h; rw [h] at hfn3; simp at hfn3
      simp [execOp, ho, resolve, Deferred.ofValue, e1, invoke, callFunc, hfn1, n2, n3]
    unfold Oper.wp
    rw [hex]
    show Calls _ _ _ _ _
    refine hcall.mono ?_
    rintro e w' ⟨v, H3, b2, b3, rfl, q1, q2, q3, q4, q5, q6, q7, q9, q8⟩
    show K (a.put o.dst v) w'
    -- blocks of the caller's that were not handed over
    have hkeep : ∀ t b, t ∉ bx → mutBlk ((freezeT σ1 ts).getT t) (L t) = some b → w'.heap[b]? = w.heap[b]? ∧ H3 b = none := fun t b ht hb => by
      have h5 := (r2.ents t).lt hb
      have hnb : b ∉ blks (freezeT σ1 ts) L bx := fun hm => by
        obtain ⟨t', ht', hb'⟩ := List.mem_filterMap.1 hm
        exact r2.apart t t' b (fun e => ht (e ▸ ht')) hb hb'
      exact ⟨q3.block b h5.1 hnb, (q4 b h5.1 hnb).trans h5.2.1⟩
    have hfr3 : Framed X.w0 X.own0 w' := r2.fr.then q3 (fun b hb => (hbs.2 b hb).2)
    split at k8
    · -- numbers alone
      rename_i hsc
      simp only [Bool.and_eq_true, List.isEmpty_iff] at hsc
      obtain ⟨hsc, rfl⟩ := hsc
      have hH1 : H1.sub w' := fun b ob hb => by
        have h5 := k3.sub b ob hb
        exact (q3.block b (Array.getElem?_eq_some_iff.1 h5).1 (by simp [blks])).trans h5
      have r3 : Rel X H1 L σ1 a w' := k3.move (fun _ => rfl) (Vl.le_refl L) (Fz.le_refl H1) hH1 hfr3 hH1 (fun _ => False) (fun t _ => ⟨rfl, rfl⟩) (fun t b _ hb => by
          have h5 := (k3.ents t).lt hb
          exact ⟨q3.block b h5.1 (by simp [blks]), h5.2.1⟩) (fun t h => h.elim) (fun t t' b h => h.elim)
      exact hK _ _ _ _ (putD_run k r3 (IV.scalar_rep res hsc q6) k8)
    · -- blocks of what comes back, beside those that were not handed over
      have hold : ∀ u b, u ∉ bx → (b ∈ b2 ∨ b ∈ b3) → mutBlk ((freezeT σ1 ts).getT u) (L u) ≠ some b := fun u b hu hb hm => by
        have h5 : w.heap.size ≤ b ∨ b ∈ blks (freezeT σ1 ts) L bx := by
          rcases hb with hb | hb
          · exact (q8 b hb).2
          · exact (q9 b hb).2
        rcases h5 with h6 | h6
        · have := ((r2.ents _).lt hm).1
          omega
        · obtain ⟨t', ht', hb'⟩ := List.mem_filterMap.1 h6
          exact r2.apart u t' b (fun e => hu (e ▸ ht')) hm hb'
      have hmine : ∀ b, (w.heap.size ≤ b ∨ b ∈ blks (freezeT σ1 ts) L bx) → X.Mine b := fun b h => by
        rcases h with h | h
        · exact .inl (Nat.le_trans r2.fr.size h)
        · exact (hbs.2 b h).2
      split at k8
      · -- a variable with rows of its own
        rename_i t ty cells hpt
        have k9 := freezeTs_run ts k8
        obtain ⟨htb, k10⟩ := need_run k9
        simp only [decide_eq_true_eq] at htb
        have hvals2 : Val.RepL H2 L (vs ++ caps) ((args.map a.eval).toList ++ cap.toList) := Val.RepL.le (Fz.le_trans k2 m1) (Vl.le_refl L) _ _ hall
        obtain ⟨b0, cur, bs', g1, g2, g3, g4, g5⟩ := ptrL_rep (vs ++ caps) hvals2 q5 hpt
        have hb0 : b0 ∈ b3 := g5.subset (by simp)
        have hbs' : ∀ b ∈ bs', b ∈ b3 := fun b hb => g5.subset (by simp [hb])
        have hnd3 : (b0 :: (b2 ++ bs')).Nodup := by
          have h6 := List.nodup_append.1 q7
          have h7 := h6.1.sublist g5
          rw [List.nodup_cons] at h7 ⊢
          refine ⟨fun hm => ?_, ?_⟩
          · rcases List.mem_append.1 hm with hm | hm
            · exact h6.2.2 b0 hb0 b0 hm rfl
            · exact h7.1 hm
          · rw [List.nodup_append]
            exact ⟨h6.2.1, h7.2, fun x hx y hy e => h6.2.2 y (hbs' y hy) x hx e.symm⟩
        unfold backP at k10
        split at k10
        case h_2 => exact (fail_run k10).elim
        rename_i v1 cs heq
        obtain ⟨hcell, k11⟩ := need_run k10
        have k12 := putTs_run _ k11
        simp only [Prog.run] at k12
        generalize hσ3 : (freezeT σ1 ts).putsT (bx.map fun u => (u, Ent.gone)) = σ3 at k12
        have hs3 : ∀ i, σ3.getS i = (freezeT σ1 ts).getS i := fun i => by rw [← hσ3, getS_putsT]
        have ht3 : ∀ u, u ∉ bx → σ3.getT u = (freezeT σ1 ts).getT u := fun u hu => by rw [← hσ3, getT_putsT_not _ _ u (by simpa using hu)]
        have hg3 : ∀ u, u ∈ bx → σ3.getT u = .gone := fun u hu => by rw [← hσ3]; exact getT_gone (σ := σ1) bx hu _
        have hlen := cells_len g3
        generalize hσ4 : σ3.putT t (.box ty (cs.map fun _ => Val.cell)) = σ4 at k12
        have ht4 : σ4.getT t = .box ty (cs.map fun _ => Val.cell) := by rw [← hσ4, St.getT_putT, if_pos rfl]
        have hn4 : ∀ u, t ≠ u → σ4.getT u = σ3.getT u := fun u hu => by rw [← hσ4, St.getT_putT, if_neg hu]
        have hX : IV.Rep H3 w' (.tup [res, .tup cells]) (.tuple #[v, .tuple cur]) (b2 ++ bs') := by
          unfold IV.Rep
          refine ⟨_, rfl, ?_⟩
          unfold IV.RepL
          refine ⟨v, [.tuple cur], b2, bs', rfl, rfl, q6, ?_⟩
          unfold IV.RepL
          refine ⟨_, [], bs', [], rfl, by simp, by unfold IV.Rep; exact ⟨_, rfl, g3⟩, by unfold IV.RepL; exact ⟨rfl, rfl⟩⟩
        obtain ⟨k13, hfresh⟩ := freshTs_run _ k12
        have hLfr : ∀ j, 0 ≤ j → j < (unpackV (2 * o.dst.getD 1000000 + 1) (.tup [res, .tup cells]) 0).2.2 → L (2 * o.dst.getD 1000000 + 1, j) = none := fun j _ hj => by
          have h6 := hfresh j hj
          by_cases e : t = (2 * o.dst.getD 1000000 + 1, j)
          · rw [← e, ht4] at h6; cases h6
          · rw [hn4 _ e] at h6
            by_cases hm : (2 * o.dst.getD 1000000 + 1, j) ∈ bx
            · rw [hg3 _ hm] at h6; cases h6
            · rw [ht3 _ hm] at h6
              have := r2.ents (2 * o.dst.getD 1000000 + 1, j)
              rw [h6] at this
              exact this
        obtain ⟨L3, g6, g7⟩ := unpackV_rep (X := X) (2 * o.dst.getD 1000000 + 1) (.tup [res, .tup cells]) 0 (L0 := L) hX (List.nodup_cons.1 hnd3).2 (fun b hb => by
          rcases List.mem_append.1 hb with hb | hb
          · exact ⟨(q8 b hb).1, hmine b (q8 b hb).2⟩
          · exact ⟨(q9 b (hbs' b hb)).1, hmine b (q9 b (hbs' b hb)).2⟩) hLfr
        rw [heq] at g7
        unfold Val.Rep at g7
        obtain ⟨arr, e9, g7⟩ := g7
        simp only [Value.tuple.injEq] at e9
        subst e9
        unfold Val.RepL at g7
        obtain ⟨u1, r1, e9, gv, g7⟩ := g7
        simp only [List.cons.injEq] at e9
        obtain ⟨rfl, rfl⟩ := e9
        unfold Val.RepL at g7
        obtain ⟨u1, r1, e9, gc, _⟩ := g7
        simp only [List.cons.injEq] at e9
        obtain ⟨rfl, rfl⟩ := e9
        unfold Val.Rep at gc
        obtain ⟨arr, e9, gc⟩ := gc
        simp only [Value.tuple.injEq] at e9
        subst e9
        have r4 : Rel X H3 L σ4 a w' := by
          refine r2.move (fun i => by rw [← hσ4]; exact hs3 i) (Vl.le_refl L) q1 q2 hfr3 (fun b ob hb => q2 b ob (q1 b ob hb)) (fun u => u ∈ bx) (fun u hu => ⟨?_, rfl⟩) (fun u b hu hb => hkeep u b hu hb) (fun u hu => ?_) (fun u u' b hu hne hm => ?_) (fun k' hk' => q4 k' (Nat.lt_of_lt_of_le (Nat.lt_of_not_le (fun e => hk' (.inl e))) r2.fr.size) (fun hm => hk' (hbs.2 k' hm).2))
          · rw [hn4 u (fun e => hu (e ▸ htb)), ht3 u hu]
          · by_cases e : t = u
            · subst e
              rw [ht4]
              exact ⟨b0, cur, g1, g2, by
                have := cellV_rep (H := H3) (L := L) (cells := cells) hlen g4
                have h8 : (cs.map fun _ => Val.cell) = cells.map fun _ => Val.cell := by
                  rw [List.map_const', List.map_const', hlen]
                  have : cs.length = cur.toList.length := (Val.RepL.len gc).symm
                  rw [this]
                rw [h8]; exact this, fun c hc => by
                obtain ⟨_, _, rfl⟩ := List.mem_map.1 hc; rfl, (q9 b0 hb0).1, hmine b0 (q9 b0 hb0).2⟩
            · rw [hn4 u e, hg3 u hu]; trivial
          · by_cases e : t = u
            · subst e
              rw [ht4, g1] at hm
              simp [mutBlk] at hm
              subst hm
              rw [hn4 u' hne]
              by_cases hu' : u' ∈ bx
              · rw [hg3 u' hu']; simp [mutBlk]
              · rw [ht3 u' hu']; exact hold u' _ hu' (.inr hb0)
            · rw [hn4 u e, hg3 u hu] at hm; simp [mutBlk] at hm
        have hkeys := (unpackV_key (2 * o.dst.getD 1000000 + 1) (.tup [res, .tup cells]) 0).2
        have r5 := r4.laid g6 (fun u hu => by
          have h5 := hkeys u hu
          obtain ⟨t1, t2⟩ := u
          dsimp only at h5
          obtain ⟨rfl, _, h6⟩ := h5
          exact hfresh t2 h6) (fun b hb u hm => by
          by_cases e : t = u
          · subst e
            rw [ht4, g1] at hm
            simp [mutBlk] at hm
            subst hm
            exact (List.nodup_cons.1 hnd3).1 hb
          · rw [hn4 u e] at hm
            by_cases hu : u ∈ bx
            · rw [hg3 u hu] at hm; simp [mutBlk] at hm
            · rw [ht3 u hu] at hm
              refine hold u b hu ?_ hm
              rcases List.mem_append.1 hb with hb | hb
              · exact .inl hb
              · exact .inr (hbs' b hb))
        have k14 := putTs_run _ k13
        simp only [Prog.run] at k14
        have hLt : L3 t = some (.pointer (some ⟨b0, 0, none⟩)) := g6.le _ _ g1
        have ht5 : (σ4.putsT (unpackV (2 * o.dst.getD 1000000 + 1) (.tup [res, .tup cells]) 0).2.1).getT t = .box ty (cs.map fun _ => Val.cell) := by
          rw [getT_putsT_not _ _ t (fun hm => by
            have h5 := hkeys t hm
            obtain ⟨t1, t2⟩ := t
            dsimp only at h5
            obtain ⟨rfl, _, h6⟩ := h5
            have := hfresh t2 h6
            rw [ht4] at this; cases this), ht4]
        have r6 := r5.write (t := t) (e := .box ty (cs.map cellC)) (b0 := b0) (by rw [ht5, hLt]; rfl) ⟨rfl, rfl, rfl, Nat.le_refl _, fun _ _ _ => rfl⟩ ⟨b0, cur, hLt, g2, cellC_rep gc g4, fun c hc => List.all_eq_true.1 hcell c hc, (q9 b0 hb0).1, hmine b0 (q9 b0 hb0).2⟩ (by rw [hLt]; rfl)
        exact hK _ _ _ _ (putD_run k r6 gv k14)
      · have k9 := freezeTs_run ts k8
        obtain ⟨hupd, k10⟩ := need_run k9
        simp only [decide_eq_true_eq] at hupd
        have k11 := putTs_run _ k10
        have hvals2 : Val.RepL H2 L (vs ++ caps) ((args.map a.eval).toList ++ cap.toList) := Val.RepL.le (Fz.le_trans k2 m1) (Vl.le_refl L) _ _ hall
        have hund : ((updL (vs ++ caps) outs).map (·.1)).Nodup := hupd ▸ hnd
        -- the variables as they come back
        have hinv : ∀ t e, (t, e) ∈ updL (vs ++ caps) outs → EntInv X H3 L w' t e ∧ ∀ b, mutBlk e (L t) = some b → mutBlk ((freezeT σ1 ts).getT t) (L t) = some b ∧ b ∈ b3 := fun t e hm => by
          have htb : t ∈ bx := hupd ▸ List.mem_map.2 ⟨_, hm, rfl⟩
          rcases updL_rep (vs ++ caps) hvals2 q5 t e hm with rfl | ⟨b, cur, ty, cells, rfl, g1, g2, g3, g4, g5⟩ | ⟨nl, e1, sz, xs, v1, cells, rfl, g1, ⟨A, n1, c1, rfl⟩, g3, g4, g5, g6, g7⟩
          · exact ⟨trivial, fun b hb => by simp [mutBlk] at hb⟩
          rotate_left
          · -- a row that was lent
            have hold : ∀ b, mutBlk (.row true nl e1 sz xs) (L t) = some b → mutBlk ((freezeT σ1 ts).getT t) (L t) = some b ∧ b ∈ b3 := fun b hb => by
              rw [g1] at hb
              cases A with
              | none => simp [mutBlk] at hb
              | some A =>
                simp only [mutBlk, Option.some.injEq] at hb
                subst hb
                refine ⟨?_, g7 _ (by simp [Value.ownBlock])⟩
                rcases hbox t htb with ⟨ty', cells', hb'⟩ | ⟨ty', cells', hb'⟩ | ⟨m, nl', e1', sz', xs', hb'⟩
                · have he := r2.ents t
                  rw [hb'] at he
                  obtain ⟨b0, cur0, p1, _⟩ := he
                  rw [g1] at p1; cases p1
                · have he := r2.ents t
                  rw [hb'] at he
                  obtain ⟨b0, cur0, p1, _⟩ := he
                  rw [g1] at p1; cases p1
                · cases m with
                  | true => rw [hb', g1]; rfl
                  | false => exact (hlive2 t htb _ _ _ _ hb').elim
            refine ⟨⟨_, cells, g1, g3, g4, g5, g6, fun b hb => ?_⟩, hold⟩
            rw [if_pos rfl]
            have hb3 : b ∈ b3 := g7 b (by rw [hb]; simp)
            have h5 : w.heap.size ≤ b ∨ b ∈ blks (freezeT σ1 ts) L bx := (q9 b hb3).2
            exact ⟨(q9 b hb3).1, hmine b h5⟩
          have hmb : mutBlk ((freezeT σ1 ts).getT t) (L t) = some b := by
            rcases hbox t htb with ⟨ty', cells', hb'⟩ | ⟨ty', cells', hb'⟩ | ⟨m, nl, e1, sz, xs, hb'⟩
            · rw [hb', g1]; rfl
            · rw [hb', g1]; rfl
            · have he := r2.ents t
              rw [hb'] at he
              obtain ⟨v0, cells0, p1, p2, _⟩ := he
              rw [g1] at p1
              cases p1
              rcases p2.2 with ⟨e0, _⟩ | ⟨_, _, _, e0, _⟩ <;> cases e0
          have h5 := (r2.ents t).lt hmb
          exact ⟨⟨b, cur, g1, g2, g3, g4, (q9 b g5).1, h5.2.2⟩, fun b' hb' => by
            rw [g1] at hb'
            simp [mutBlk] at hb'
            subst hb'
            exact ⟨hmb, g5⟩⟩
        have r3 : Rel X H3 L ((freezeT σ1 ts).putsT (updL (vs ++ caps) outs)) a w' := by
          refine r2.move (fun i => getS_putsT _ _ i) (Vl.le_refl L) q1 q2 hfr3 (fun b ob hb => q2 b ob (q1 b ob hb)) (fun t => t ∈ (updL (vs ++ caps) outs).map (·.1)) (fun t ht => ⟨getT_putsT_not _ _ t ht, rfl⟩) (fun t b ht hb => hkeep t b (fun hm => ht (hupd ▸ hm)) hb) (fun t ht => ?_) (fun t t' b ht hne hm => ?_) (fun k' hk' => q4 k' (Nat.lt_of_lt_of_le (Nat.lt_of_not_le (fun e => hk' (.inl e))) r2.fr.size) (fun hm => hk' (hbs.2 k' hm).2))
          · obtain ⟨⟨u, e⟩, hm, rfl⟩ := List.mem_map.1 ht
            rw [getT_putsT_mem hund hm]
            exact (hinv _ _ hm).1
          · obtain ⟨⟨u, e⟩, hme, rfl⟩ := List.mem_map.1 ht
            rw [getT_putsT_mem hund hme] at hm
            obtain ⟨g2, _⟩ := (hinv _ _ hme).2 _ hm
            by_cases ht' : t' ∈ (updL (vs ++ caps) outs).map (·.1)
            · obtain ⟨⟨u', e'⟩, hme', rfl⟩ := List.mem_map.1 ht'
              rw [getT_putsT_mem hund hme']
              intro he
              exact r2.apart _ _ _ hne g2 ((hinv _ _ hme').2 _ he).1
            · rw [getT_putsT_not _ _ t' ht']
              exact r2.apart _ _ _ hne g2
        obtain ⟨k12, hfresh⟩ := freshTs_run _ k11
        have hLfr : ∀ j, 0 ≤ j → j < (unpackV (2 * o.dst.getD 1000000 + 1) res 0).2.2 → L (2 * o.dst.getD 1000000 + 1, j) = none := fun j _ hj => by
          have := r3.ents (2 * o.dst.getD 1000000 + 1, j)
          rw [hfresh j hj] at this
          exact this
        obtain ⟨L3, g1, g2⟩ := unpackV_rep (X := X) (2 * o.dst.getD 1000000 + 1) res 0 (L0 := L) q6 (List.nodup_append.1 q7).2.1 (fun b hb => ⟨(q8 b hb).1, by rcases (q8 b hb).2 with h | h; exact .inl (Nat.le_trans r2.fr.size h); exact (hbs.2 b h).2⟩) hLfr
        have hkeys := (unpackV_key (2 * o.dst.getD 1000000 + 1) res 0).2
        have r4 := r3.laid g1 (fun t ht => by
          have h5 := hkeys t ht
          obtain ⟨t1, t2⟩ := t
          dsimp only at h5
          obtain ⟨rfl, _, h6⟩ := h5
          exact hfresh t2 h6) (fun b hb t hm => by
          have hold : mutBlk ((freezeT σ1 ts).getT t) (L t) = some b ∧ (t ∈ bx → b ∈ b3) := by
            by_cases ht : t ∈ (updL (vs ++ caps) outs).map (·.1)
            · obtain ⟨⟨u, e⟩, hme, rfl⟩ := List.mem_map.1 ht
              rw [getT_putsT_mem hund hme] at hm
              exact ⟨((hinv _ _ hme).2 _ hm).1, fun _ => ((hinv _ _ hme).2 _ hm).2⟩
            · rw [getT_putsT_not _ _ t ht] at hm
              exact ⟨hm, fun h => absurd (hupd ▸ h) ht⟩
          rcases (q8 b hb).2 with h6 | h6
          · have := ((r2.ents _).lt hold.1).1
            omega
          · obtain ⟨t', ht', hb'⟩ := List.mem_filterMap.1 h6
            by_cases e : t = t'
            · subst e
              exact (List.nodup_append.1 q7).2.2 b (hold.2 ht') b hb rfl
            · exact r2.apart t t' b e hold.1 hb')
        exact hK _ _ _ _ (putD_run k r4 g2 (putTs_run _ k12))
end
end Go.Ab

/- slices.Insert of one number, as an operation of the evaluator. No condition. -/
set_option linter.unusedVariables false
set_option linter.unusedSimpArgs false
namespace Go.Ab
open Go

/-- One number put into a row of the call's own. -/
def insP (E : Ev) (e0 : TypeId) (o : Oper) (args : List (TypeId × Operand)) : Prog :=
  opnds E.T E.G args fun vs => match vs with
  | [.ref t l, .d (.int .i64 k), .ref t' none] => if t = t' then .fail else .getT t fun en => match en with
    | .row true nl e sz xs => .getT t' fun en' => match en' with
      | .row true nl' e' sz' [.int .i64 y] => needs [decide (0 ≤ k), decide (k ≤ ((takeL l xs).length : Int)), decide (((takeL l xs).length + 1) * 8 ≤ 140737488355328), e == e0, e' == e0, sz == 1, sz' == 1]
          (.putT t .gone (newT (tokD o 0) (.row true false e0 1 ((takeL l xs).take k.toNat ++ .int .i64 y :: (takeL l xs).drop k.toNat)) (putD E o (.ref (tokD o 0) none))))
      | _ => .fail
    | _ => .fail
  | _ => .fail
section
variable {X : Cx} {E : Ev} {C : Caller}
theorem own_mut {v : Value} {e : TypeId} {sz : Nat} {nl : Bool} {xs : List D} {b : Nat} (h : v.ownBlock = some b) : mutBlk (.row true nl e sz xs) (some v) = some b := by
  cases v <;> simp [Value.ownBlock] at h
  rename_i A n c
  cases A <;> simp [mutBlk] at h ⊢
  exact h
theorem repL1 {H : Fz} {k : IntKind} {y : Int} {cells : List Value} (h : D.RepL H [.int k y] cells) : cells = [.int k y] := by
  unfold D.RepL at h
  obtain ⟨a, b, rfl, h1, h2⟩ := h
  unfold D.Rep at h1
  unfold D.RepL at h2
  rw [h1, h2]; rfl
theorem insP_ok (k : Cxk X E) {f : FuncId} {e0 : TypeId} (hins : InsOk X.P f e0) (hfn : FnOk X.P f) {o : Oper} {args : Array Operand} {tys : Array TypeId} {l : List (TypeId × Operand)} (hl : l.map (·.2) = args.toList) (ho : o.op = .call { callee := .value (.func f), args := args, argTypes := tys }) : OpOk X C o (insP E e0 o l) := by
  intro H L σ a w σ' r h K Q hK
  obtain ⟨vs, h3, h4⟩ := opnds_run k r _ h
  have e2 : l.map (fun p => a.eval p.2) = (args.map a.eval).toList := by
    rw [Array.toList_map, ← hl, List.map_map]; rfl
  rw [e2] at h4
  split at h3
  case h_2 => exact (fail_run h3).elim
  rename_i t lt kk t'
  split at h3
  case isTrue => exact (fail_run h3).elim
  rename_i htt
  simp only [Prog.run] at h3
  split at h3
  case h_2 => exact (fail_run h3).elim
  rename_i nl e sz xs hrow
  simp only [Prog.run] at h3
  split at h3
  case h_2 => exact (fail_run h3).elim
  rename_i nl' e' sz' y hrow'
  simp only [needs] at h3
  obtain ⟨g1, h3⟩ := need_run h3
  obtain ⟨g2, h3⟩ := need_run h3
  obtain ⟨g3, h3⟩ := need_run h3
  obtain ⟨g4, h3⟩ := need_run h3
  obtain ⟨g6, h3⟩ := need_run h3
  obtain ⟨g7, h3⟩ := need_run h3
  obtain ⟨g8, h3⟩ := need_run h3
  simp only [Prog.run] at h3
  obtain ⟨g5, h9⟩ := newT_run h3
  simp only [decide_eq_true_eq, beq_iff_eq] at g1 g2 g3 g4 g6 g7 g8
  subst g4 g6 g7 g8
  unfold Val.RepL at h4
  obtain ⟨u, us1, hu1, h2, h4⟩ := h4
  unfold Val.RepL at h4
  obtain ⟨ku, us2, rfl, hku, h4⟩ := h4
  unfold Val.RepL at h4
  obtain ⟨v, us3, rfl, hv, h4⟩ := h4
  unfold Val.RepL at h4
  subst h4
  have hkv : ku = .int .i64 kk := by
    unfold Val.Rep at hku
    simp only [D.RepV] at hku
    unfold D.Rep at hku
    simpa using hku
  subst hkv
  have hargs : args.map a.eval = #[u, .int .i64 kk, v] := by
    apply Array.toList_inj.1
    rw [hu1]
  have he := r.ents t
  rw [hrow] at he
  obtain ⟨own, q1, q2, q3, q4, q5, q6⟩ := ref_val he h2
  obtain ⟨v0, cells0, p1, _, _, _, _, p6⟩ := he
  have hblk := q6 v0 p1
  have he' := r.ents t'
  rw [hrow'] at he'
  obtain ⟨own', q1', q2', q3', q4', q5', q6'⟩ := ref_val he' hv
  obtain ⟨v0', cells0', p1', _⟩ := he'
  have hblk' := q6' v0' p1'
  have hown' := repL1 q2'
  subst hown'
  have hne : v.ownBlock ≠ u.ownBlock := fun hh => by
    have : ∃ b, v.ownBlock = some b := by
      rcases q1'.2 with ⟨_, h0⟩ | ⟨g, cap, cur, rfl, _⟩
      · simp [takeL] at h0
      · exact ⟨g, rfl⟩
    obtain ⟨b, hb⟩ := this
    refine r.apart t t' b htt ?_ ?_
    · rw [hrow, p1]; exact own_mut (by rw [← hblk, ← hh]; exact hb)
    · rw [hrow', p1']; exact own_mut (by rw [← hblk']; exact hb)
  obtain ⟨fn, hfn1, hfn2, hfn3⟩ := hfn
  have hkk : (kk.toNat : Int) = kk := by omega
  have hcall := hins w u v (takeL lt xs).length kk.toNat own y q1 q1' hne (by omega) g3 (D.RepL.one _ _ q2)
  rw [hkk] at hcall
  have hex : (execOp a.eval o).run X.P w = .ok (.enter f (args.map a.eval)) w := by
    have n2 : ¬ fn.name = "runtime.NumGoroutine" := by simpa using hfn2
    have n3 : ¬ fn.body = none := by intro h; rw [h] at hfn3; simp at hfn3
    have hf : a.eval (.func f) = .func (.func f) #[] #[] := rfl
    simp [execOp, ho, resolve, Deferred.ofValue, hf, invoke, callFunc, hfn1, n2, n3]
  unfold Oper.wp
  rw [hex]
  show Calls _ _ _ _ _
  rw [hargs]
  refine hcall.mono ?_
  rintro ex w' ⟨v', rfl, k1, k2, k4, k5⟩
  show K (a.put o.dst v') w'
  have g5' : σ.getT (tokD o 0) = .fresh := by
    rw [St.getT_putT] at g5
    by_cases hq : t = tokD o 0
    · rw [if_pos hq] at g5; cases g5
    · rw [if_neg hq] at g5; exact g5
  have hmine : ∀ b, v0.ownBlock = some b → H b = none ∧ X.Mine b := fun b hb => by simpa using p6 b hb
  have hvb : ∀ b, v'.ownBlock = some b → (v0.ownBlock = some b ∨ b = w.heap.size) := fun b hb => by
    rcases k4 with k4 | k4
    · left; rw [← hblk, ← k4]; exact hb
    · right; rw [hb] at k4; simpa using k4
  have hlen : (takeL lt xs).length = own.length := by have := q1.1; omega
  have hrep : D.RepL H ((takeL lt xs).take kk.toNat ++ .int .i64 y :: (takeL lt xs).drop kk.toNat) (own.take kk.toNat ++ .int .i64 y :: own.drop kk.toNat) := by
    have q2'' := q2
    rw [← List.take_append_drop kk.toNat (takeL lt xs)] at q2''
    obtain ⟨c1, c2, hc, m1, m2⟩ := D.RepL.split q2''
    have hw1 : ∀ x ∈ takeL lt xs, x.width = 1 := q3
    have hl1 : c1.length = ((takeL lt xs).take kk.toNat).length := by
      rw [D.RepL.len _ _ m1, D.widthL_const (sz := 1) (fun x hx => hw1 x (List.mem_of_mem_take hx))]; omega
    have hk2 : kk.toNat ≤ own.length := by omega
    have hl2 : c1.length = kk.toNat := by rw [hl1, List.length_take]; omega
    have e1 : own.take kk.toNat = c1 := by rw [hc, ← hl2]; exact List.take_left
    have e3 : own.drop kk.toNat = c2 := by rw [hc, ← hl2]; exact List.drop_left
    rw [e1, e3]
    refine D.RepL.append ?_ m1
    unfold D.RepL
    exact ⟨[.int .i64 y], c2, rfl, by unfold D.Rep; rfl, m2⟩
  have r1 : Rel X H (L.upd (tokD o 0) v') ((σ.putT t .gone).putT (tokD o 0) (.row true false e' 1 ((takeL lt xs).take kk.toNat ++ .int .i64 y :: (takeL lt xs).drop kk.toNat))) a w' := by
    refine r.turn g5' hrow p1 (by rw [← hblk]; exact k2) ⟨v', _, upd_same _ _ _, ?_, hrep, ?_, ?_, fun b hb => ?_⟩ (fun b hb => ?_)
    · have : ((takeL lt xs).take kk.toNat ++ D.int .i64 y :: (takeL lt xs).drop kk.toNat).length = (takeL lt xs).length + 1 := by simp; omega
      rw [this]; exact k1
    · intro z hz
      rcases List.mem_append.1 hz with hz | hz
      · exact q3 z (List.mem_of_mem_take hz)
      · rcases List.mem_cons.1 hz with rfl | hz
        · rfl
        · exact q3 z (List.mem_of_mem_drop hz)
    · simp only [Bool.false_eq_true, false_iff]
      intro h0
      rw [h0] at k5
      exact k5 rfl
    · simp only [if_true]
      rcases hvb b hb with hb | hb
      · exact hmine b hb
      · subst hb; exact ⟨Fz.none_new r.sub (Nat.le_refl _), .inl r.fr.size⟩
    · have hb' : v'.ownBlock = some b := by
        cases v' <;> simp [mutBlk] at hb
        rename_i A n c
        cases A <;> simp [mutBlk] at hb
        simp [Value.ownBlock, hb]
      rcases hvb b hb' with hb | hb
      · exact .inl hb
      · exact .inr (by omega)
  refine hK _ _ _ _ (putD_run k r1 ?_ h9)
  unfold Val.Rep
  refine ⟨upd_same _ _ _, ?_⟩
  rcases k1.2 with ⟨e0, _⟩ | ⟨_, _, _, e0, _⟩ <;> exact ⟨_, _, _, e0⟩
/-- A call: of a function that puts a number into a row, or another one. -/
def callQ (E : Ev) (o : Oper) (fo : Operand) (args : List (TypeId × Operand)) : Prog :=
  match fo with
  | .func g => match insOf E.cv g with
    | some e0 => insP E e0 o args
    | none => callP E o (.func g) args
  | fo => callP E o fo args
theorem callQ_ok (k : Cxk X E) (hC : CSound X.P E.G C) {o : Oper} {fo : Operand} {args : Array Operand} {tys : Array TypeId} {l : List (TypeId × Operand)} (hl : l.map (·.2) = args.toList) (ho : o.op = .call { callee := .value fo, args := args, argTypes := tys }) : OpOk X C o (callQ E o fo l) := by
  unfold callQ
  split
  · split
    · rename_i g e0 h
      have h1 := k.ins _ _ h
      exact insP_ok k h1.1 h1.2 hl ho
    · exact callP_ok k hC hl ho
  · exact callP_ok k hC hl ho
end
end Go.Ab

/- The end of a row of the call's own is cleared. No condition. -/
set_option linter.unusedVariables false
set_option linter.unusedSimpArgs false
namespace Go.Ab
open Go
section
variable {X : Cx} {E : Ev} {C : Caller}
/-- The end of a row is written anew. -/
theorem row_tail {H : Fz} {L : Vl} {σ : St} {a : Act} {w : World} (r : Rel X H L σ a w) {t : Tok} {nl : Bool} {e : TypeId} {sz : Nat} {xs : List D} (hrow : σ.getT t = .row true nl e sz xs) {b n c : Nat} (hL : L t = some (.slice (some ⟨b, 0, none⟩) n c))
    {i : Nat} {ys : List D} {seg : List Value} (hys : D.RepL H ys seg) (hw : ∀ y ∈ ys, y.width = sz) (hlen : i + ys.length = xs.length) :
    ∃ cur, w.heap[b]? = some (.cells cur e (0, 0)) ∧ i * sz + seg.length ≤ cur.size ∧
      Rel X H L (σ.putT t (.row true nl e sz (xs.take i ++ ys))) a (w.setRow b (cur.toList.take (i * sz) ++ seg ++ cur.toList.drop (i * sz + seg.length)).toArray) := by
  have he := r.ents t
  rw [hrow] at he
  obtain ⟨v0, cells, h1, h2, h3, h4, h5, h6⟩ := he
  rw [hL] at h1
  cases h1
  have hsl : seg.length = ys.length * sz := by rw [D.RepL.len _ _ hys, D.widthL_const hw]
  have htot : i * sz + seg.length = xs.length * sz := by rw [hsl, ← hlen, Nat.add_mul]
  rcases h2.2 with ⟨e0, _⟩ | ⟨g, cap, cur, e0, e1, e2, e3, e4, e5, e6⟩
  · simp at e0
  simp only [Value.slice.injEq, Option.some.injEq, Addr.mk.injEq, and_true, true_and] at e0
  obtain ⟨rfl, hn, rfl⟩ := e0
  have hcap : xs.length * sz ≤ c * sz := Nat.mul_le_mul_right _ e3
  have hsz : i * sz + seg.length ≤ cur.size := by rw [e5]; omega
  have hcl : cells.length = xs.length * sz := h2.1
  refine ⟨cur, e2, hsz, ?_⟩
  have hmb : mutBlk (σ.getT t) (L t) = some b := by rw [hrow, hL]; rfl
  have hlen' : (xs.take i ++ ys).length = xs.length := by simp; omega
  have e7 : cells.take (i * sz) = cur.toList.take (i * sz) := by
    rw [← e6, List.take_take]; congr 1; omega
  refine r.write hmb (setRow_grown w b _) ⟨_, cells.take (i * sz) ++ seg, hL, ?_, ?_, ?_, h5, h6⟩ (by rw [hL]; rfl)
  · refine ⟨?_, .inr ⟨b, c, _, by rw [hn, hlen'], e1, setRow_heap w b cur _ e _ e2, by rw [hlen']; exact e3, e4, ?_, ?_⟩⟩
    · rw [hlen', List.length_append, List.length_take]; omega
    · simp only [List.size_toArray, List.length_append, List.length_take, List.length_drop, Array.length_toList]
      omega
    · rw [hlen', ← htot, e7]
      have hA : (cur.toList.take (i * sz) ++ seg).length = i * sz + seg.length := by
        rw [List.length_append, List.length_take, Array.length_toList]; omega
      rw [← hA]
      exact List.take_left
  · have hxs : xs = xs.take i ++ xs.drop i := (List.take_append_drop i xs).symm
    rw [hxs] at h3
    obtain ⟨c1, c2, rfl, k1, k2⟩ := D.RepL.split h3
    have hc1 : c1.length = i * sz := by
      rw [D.RepL.len _ _ k1, D.widthL_const (sz := sz) (fun z hz => h4 z (List.mem_of_mem_take hz)), List.length_take]
      congr 1; omega
    rw [← hc1, List.take_left]
    exact D.RepL.append hys k1
  · intro z hz
    rcases List.mem_append.1 hz with hz | hz
    · exact h4 z (List.mem_of_mem_take hz)
    · exact hw z hz
theorem Rel.sameT {H : Fz} {L : Vl} {σ : St} {a : Act} {w : World} (r : Rel X H L σ a w) {t : Tok} {e : Ent} (h : σ.getT t = e) : Rel X H L (σ.putT t e) a w := by
  have hg : ∀ u, (σ.putT t e).getT u = σ.getT u := fun u => by
    rw [St.getT_putT]
    split
    · rename_i hu; subst hu; exact h.symm
    · rfl
  exact ⟨r.le, r.sub, r.fr, r.defers, r.size, r.env, fun u => by rw [hg]; exact r.ents u, fun u u' b hne h1 h2 => r.apart u u' b hne (by rw [← hg]; exact h1) (by rw [← hg]; exact h2), r.lk, r.fz⟩
def clearP (E : Ev) (o : Oper) (t : TypeId) (x : Operand) : Prog :=
  opnd E.T E.G t x fun v => match E.T.get t with
    | some { desc := .slice e, .. } => match E.T.get e with
      | some te => match v with
        | .tail tk sz i => .getT tk fun en => match en with
          | .row true nl e' sz' xs => needs [sz == te.size, sz' == te.size] (.putT tk (.row true nl e' sz' (xs.take i ++ List.replicate (xs.length - i) te.zero)) (putD E o (.tup [])))
          | _ => .fail
        | _ => .fail
      | none => .fail
    | _ => .fail
theorem clearP_ok (k : Cxk X E) {o : Oper} {x : Operand} {t : TypeId} (ho : o.op = .call { callee := .builtin .clear, args := #[x], argTypes := #[t] }) : OpOk X C o (clearP E o t x) := by
  intro H L σ a w σ' r h K Q hK
  obtain ⟨v, h1, h2⟩ := opnd_run k r h
  split at h1
  case h_2 => exact (fail_run h1).elim
  rename_i e _ _ _ _ ht
  split at h1
  case h_2 => exact (fail_run h1).elim
  rename_i te hte
  have hd := k.tab _ _ hte
  split at h1
  case h_2 => exact (fail_run h1).elim
  rename_i tk sz i
  simp only [Prog.run] at h1
  split at h1
  case h_2 => exact (fail_run h1).elim
  rename_i nl e' sz' xs hrow
  obtain ⟨q1, q2⟩ := needs_run h1
  have p1 : sz = te.size := by simpa using q1 _ (List.mem_cons_self)
  have p2 : sz' = te.size := by simpa using q1 _ (List.mem_cons_of_mem _ (List.mem_cons_self))
  subst p1 p2
  simp only [Prog.run] at q2
  unfold Val.Rep at h2
  obtain ⟨A0, n, c, A, hL, hin, hv, hA⟩ := h2
  have hrep0 : (Val.tup []).Rep H L (.tuple #[]) := by
    unfold Val.Rep
    exact ⟨#[], rfl, by unfold Val.RepL; rfl⟩
  have he := r.ents tk
  rw [hrow] at he
  obtain ⟨v0, cells, g1, g2, g3, g4, g5, g6⟩ := he
  rw [hL] at g1
  simp only [Option.some.injEq] at g1
  have hnx : n = xs.length := by
    rcases g2.2 with ⟨e0, e4⟩ | ⟨_, _, _, e0, _⟩
    · rw [← g1] at e0; cases e0; omega
    · rw [← g1] at e0; cases e0; rfl
  have hz0 := (D.plain_rep (H := H) hd.plain).cells
  have hcl : te.zero.val.cells.toList.length = te.size := by simpa using hd.zsz
  have hwz : ∀ x ∈ List.replicate (xs.length - i) te.zero, x.width = te.size := fun x hx => by
    rw [(List.mem_replicate.1 hx).2, ← D.Rep.len _ _ hz0.2.2]
    exact hcl
  have hrep : D.RepL H (List.replicate (xs.length - i) te.zero) (Builtin.zeroCells te.zero.val.cells (xs.length - i)).toList := by
    have h5 := repL_replicate hz0.2.2 (xs.length - i)
    rw [flatten_replicate _ (by rw [hcl]; exact hd.pos), hcl] at h5
    have h6 : (Builtin.zeroCells te.zero.val.cells (xs.length - i)).toList = (List.range ((xs.length - i) * te.size)).map fun i => te.zero.val.cells.toList[i % te.size]! := by
      simp only [Builtin.zeroCells, hd.zsz]
      simp
      intro a ha
      simp only [getElem!_def]
      cases te.zero.val.cells[a % te.size]? <;> rfl
    rw [h6]; exact h5
  by_cases hlt : i < n
  · obtain ⟨b, e0, e1⟩ := hA hlt
    subst e0 e1
    obtain ⟨cur, w1, w2, r1⟩ := row_tail r hrow hL hrep hwz (by simp; omega) (i := i)
    have hst := run_storeCells_at (P := X.P) b (i * te.size) e' (Builtin.zeroCells te.zero.val.cells (xs.length - i)).toList 0 cur w w1 (by simpa using w2) (D.RepL.one _ _ hrep)
    simp only [Nat.add_zero] at hst
    refine wp_value (w1 := _) (v := .tuple #[]) ?_ (hK _ _ _ _ (putD_run k r1 hrep0 q2))
    obtain ⟨m, hm⟩ : ∃ m, n - i = m + 1 := ⟨n - i - 1, by omega⟩
    have hm' : xs.length - i = m + 1 := by omega
    rw [hm] at hv
    rw [hm'] at hst
    simp [execOp, ho, resolve, invoke, builtin, Builtin.clear_, run_underlying (k.tab _ _ ht).und, hv, hd.run_zero, hst, hm']
  · have hni : n - i = 0 := by omega
    rw [hni] at hv
    have hid : xs.take i ++ List.replicate (xs.length - i) te.zero = xs := by
      rw [List.take_of_length_le (by omega), show xs.length - i = 0 by omega]; simp
    rw [hid] at q2
    have r1 : Rel X H L (σ.putT tk (.row true nl e' te.size xs)) a w := r.sameT hrow
    refine wp_value (w1 := w) (v := .tuple #[]) ?_ (hK _ _ _ _ (putD_run k r1 hrep0 q2))
    cases A <;> simp [execOp, ho, resolve, invoke, builtin, Builtin.clear_, run_underlying (k.tab _ _ ht).und, hv]
end
end Go.Ab
