/- Values between regions and at calls: laid out into tokens, and gathered again. No condition. -/
import Derived.Test.YtoghhgceanlkkaaAbOps11
set_option linter.unusedVariables false
set_option linter.unusedSimpArgs false
namespace Go.Ab
open Go

mutual
def IV.Rep (H : Fz) (w : World) : IV → Value → List Nat → Prop
  | .dead, _, bs => bs = []
  | .d x, v, bs => x.RepV H v ∧ bs = []
  | .own nl e sz xs, v, bs => ∃ cells, w.ownsRow 0 e sz v xs.length cells ∧ D.RepL H xs cells ∧ (∀ x ∈ xs, x.width = sz) ∧ (nl = true ↔ v = .slice none 0 0) ∧ bs = v.ownBlock.toList
  | .ptr ty off cells, v, bs => ∃ b cur bs', v = .pointer (some ⟨b, off, none⟩) ∧ w.heap[b]? = some (.cells cur ty (0, 0)) ∧ IV.RepL H w cells cur.toList bs' ∧ (∀ u ∈ cur.toList, u.oneCell' = true) ∧ bs = b :: bs'
  | .dbox ty off cells, v, bs => ∃ b cur, v = .pointer (some ⟨b, off, none⟩) ∧ w.heap[b]? = some (.cells cur ty (0, 0)) ∧ D.RepL H cells cur.toList ∧ (∀ c ∈ cells, c.isAgg = false) ∧ bs = [b]
  | .dptr xs, v, bs => (∃ a cs, v = .pointer (some a) ∧ D.RepL H xs cs ∧ Lies H a cs ∧ ∀ c ∈ xs, c.isAgg = false) ∧ bs = []
  | .fn f caps, v, bs => ∃ arr, v = .func (.func f) #[] arr ∧ IV.RepL H w caps arr.toList bs
  | .agg cs, v, bs => ∃ arr, v = .agg arr ∧ IV.RepL H w cs arr.toList bs ∧ ∀ u ∈ arr.toList, u.oneCell' = true
  | .tup vs, v, bs => ∃ arr, v = .tuple arr ∧ IV.RepL H w vs arr.toList bs
def IV.RepL (H : Fz) (w : World) : List IV → List Value → List Nat → Prop
  | [], vs, bs => vs = [] ∧ bs = []
  | x :: xs, vs, bs => ∃ v r b1 b2, vs = v :: r ∧ bs = b1 ++ b2 ∧ IV.Rep H w x v b1 ∧ IV.RepL H w xs r b2
end

mutual
/-- A value laid out: its tokens begin with (t, k). -/
def unpackV (t : Nat) : IV → Nat → Val × List (Tok × Ent) × Nat
  | .dead, k => (.dead, [], k)
  | .d x, k => (.d x, [], k)
  | .own nl e sz xs, k => (.ref (t, k) none, [((t, k), .row true nl e sz xs)], k + 1)
  | .ptr ty off cells, k =>
    let r := unpackL t cells (k + 1)
    if r.1.all Val.isCell then (.ptr (t, k) off, ((t, k), .box ty r.1) :: r.2.1, r.2.2) else (.dead, [], k)
  | .dbox ty off cells, k => (.ptr (t, k) off, [((t, k), .dbox ty cells)], k + 1)
  | .dptr xs, k => (.dptr xs, [], k)
  | .fn f caps, k => let r := unpackL t caps k; (.fn f r.1, r.2.1, r.2.2)
  | .agg cs, k => let r := unpackL t cs k; if r.1.all Val.isCell then (.agg r.1, r.2.1, r.2.2) else (.dead, [], k)
  | .tup vs, k => let r := unpackL t vs k; (.tup r.1, r.2.1, r.2.2)
def unpackL (t : Nat) : List IV → Nat → List Val × List (Tok × Ent) × Nat
  | [], k => ([], [], k)
  | x :: xs, k =>
    let r := unpackV t x k
    let s := unpackL t xs r.2.2
    (r.1 :: s.1, r.2.1 ++ s.2.1, s.2.2)
end

/-- What holds of entries that were laid out. -/
structure Laid (X : Cx) (H : Fz) (w : World) (L0 L : Vl) (es : List (Tok × Ent)) (bs : List Nat) : Prop where
  le : L0.le L
  key : ∀ u, L u = L0 u ∨ u ∈ es.map (·.1)
  inv : ∀ u e, (u, e) ∈ es → EntInv X H L w u e
  blk : ∀ u e b, (u, e) ∈ es → mutBlk e (L u) = some b → b ∈ bs
  apart : ∀ u e u' e' b, (u, e) ∈ es → (u', e') ∈ es → u ≠ u' → mutBlk e (L u) = some b → mutBlk e' (L u') ≠ some b
  nofr : ∀ u e, (u, e) ∈ es → e ≠ .fresh
  keys : (es.map (·.1)).Nodup

section
variable {X : Cx} {H : Fz} {w : World}

theorem EntInv.le {L L' : Vl} {u : Tok} {e : Ent} (h : EntInv X H L w u e) (hf : e ≠ .fresh) (hl : L.le L') : EntInv X H L' w u e ∧ mutBlk e (L' u) = mutBlk e (L u) := by
  cases e with
  | fresh => exact (hf rfl).elim
  | gone => exact ⟨trivial, by simp [mutBlk]⟩
  | row m nl ty sz xs =>
    obtain ⟨v, cells, h1, h2⟩ := h
    exact ⟨⟨v, cells, hl _ _ h1, h2⟩, by rw [h1, hl _ _ h1]⟩
  | box ty cells =>
    obtain ⟨b, cur, h1, h2, h3, h4⟩ := h
    exact ⟨⟨b, cur, hl _ _ h1, h2, Val.RepL.le (Fz.le_refl H) hl _ _ h3, h4⟩, by rw [h1, hl _ _ h1]⟩
  | dbox ty cells =>
    obtain ⟨b, cur, h1, h2⟩ := h
    exact ⟨⟨b, cur, hl _ _ h1, h2⟩, by rw [h1, hl _ _ h1]⟩
theorem Laid.nil (L : Vl) : Laid X H w L L [] [] :=
  ⟨Vl.le_refl L, fun _ => .inl rfl, by simp, by simp, by simp, by simp, by simp⟩
theorem Laid.append {L0 L1 L2 : Vl} {es1 es2 : List (Tok × Ent)} {bs1 bs2 : List Nat} (h1 : Laid X H w L0 L1 es1 bs1) (h2 : Laid X H w L1 L2 es2 bs2) (hd : ∀ u, u ∈ es1.map (·.1) → u ∉ es2.map (·.1)) (hb : ∀ b, b ∈ bs1 → b ∉ bs2) : Laid X H w L0 L2 (es1 ++ es2) (bs1 ++ bs2) where
  le := Vl.le_trans h1.le h2.le
  key := fun u => by
    rcases h2.key u with h | h
    · rcases h1.key u with h' | h'
      · exact .inl (h.trans h')
      · exact .inr (by simp only [List.map_append, List.mem_append]; exact .inl h')
    · exact .inr (by simp only [List.map_append, List.mem_append]; exact .inr h)
  inv := fun u e he => by
    rcases List.mem_append.1 he with he | he
    · exact ((h1.inv u e he).le (h1.nofr u e he) h2.le).1
    · exact h2.inv u e he
  blk := fun u e b he hm => by
    rcases List.mem_append.1 he with he | he
    · rw [((h1.inv u e he).le (h1.nofr u e he) h2.le).2] at hm
      exact List.mem_append_left _ (h1.blk u e b he hm)
    · exact List.mem_append_right _ (h2.blk u e b he hm)
  apart := fun u e u' e' b he he' hne hm hm' => by
    rcases List.mem_append.1 he with he | he <;> rcases List.mem_append.1 he' with he' | he'
    · rw [((h1.inv u e he).le (h1.nofr u e he) h2.le).2] at hm
      rw [((h1.inv u' e' he').le (h1.nofr u' e' he') h2.le).2] at hm'
      exact h1.apart u e u' e' b he he' hne hm hm'
    · rw [((h1.inv u e he).le (h1.nofr u e he) h2.le).2] at hm
      exact hb b (h1.blk u e b he hm) (h2.blk u' e' b he' hm')
    · rw [((h1.inv u' e' he').le (h1.nofr u' e' he') h2.le).2] at hm'
      exact hb b (h1.blk u' e' b he' hm') (h2.blk u e b he hm)
    · exact h2.apart u e u' e' b he he' hne hm hm'
  nofr := fun u e he => by
    rcases List.mem_append.1 he with he | he
    · exact h1.nofr u e he
    · exact h2.nofr u e he
  keys := by
    rw [List.map_append, List.nodup_append]
    exact ⟨h1.keys, h2.keys, fun u hu u' hu' e => hd u hu (e ▸ hu')⟩
theorem Laid.one {L0 : Vl} {u : Tok} {v : Value} {e : Ent} {bs : List Nat} (hn : L0 u = none) (he : EntInv X H (L0.upd u v) w u e) (hf : e ≠ .fresh) (hb : ∀ b, mutBlk e (some v) = some b → b ∈ bs) : Laid X H w L0 (L0.upd u v) [(u, e)] bs where
  le := Vl.le_upd hn v
  key := fun u' => by
    by_cases h : u = u'
    · subst h; exact .inr (by simp)
    · exact .inl (by unfold Vl.upd; rw [if_neg h])
  inv := fun u' e' h => by simp at h; obtain ⟨rfl, rfl⟩ := h; exact he
  blk := fun u' e' b h hm => by
    simp at h; obtain ⟨rfl, rfl⟩ := h
    rw [upd_same] at hm
    exact hb b hm
  apart := fun u1 e1 u2 e2 b h1 h2 hne => by simp at h1 h2; exact absurd (h1.1.trans h2.1.symm) hne
  nofr := fun u' e' h => by simp at h; obtain ⟨rfl, rfl⟩ := h; exact hf
  keys := by simp

mutual
theorem unpackV_key (t : Nat) : ∀ (x : IV) (k : Nat), k ≤ (unpackV t x k).2.2 ∧ ∀ u ∈ (unpackV t x k).2.1.map (·.1), u.1 = t ∧ k ≤ u.2 ∧ u.2 < (unpackV t x k).2.2
  | .dead, k => by simp [unpackV]
  | .d x, k => by simp [unpackV]
  | .own nl e sz xs, k => by simp [unpackV]
  | .ptr ty off cells, k => by
    have ih := unpackL_key t cells (k + 1)
    unfold unpackV
    dsimp only
    split
    · refine ⟨by have := ih.1; dsimp only; omega, fun u hu => ?_⟩
      simp only [List.map_cons, List.mem_cons] at hu
      rcases hu with rfl | hu
      · exact ⟨rfl, Nat.le_refl _, by have := ih.1; dsimp only; omega⟩
      · have := ih.2 u hu
        exact ⟨this.1, by omega, this.2.2⟩
    · simp
  | .dbox ty off cells, k => by simp [unpackV]
  | .dptr xs, k => by simp [unpackV]
  | .fn f caps, k => by unfold unpackV; exact unpackL_key t caps k
  | .agg cs, k => by
    have ih := unpackL_key t cs k
    unfold unpackV
    dsimp only
    split
    · exact ih
    · simp
  | .tup vs, k => by unfold unpackV; exact unpackL_key t vs k
theorem unpackL_key (t : Nat) : ∀ (xs : List IV) (k : Nat), k ≤ (unpackL t xs k).2.2 ∧ ∀ u ∈ (unpackL t xs k).2.1.map (·.1), u.1 = t ∧ k ≤ u.2 ∧ u.2 < (unpackL t xs k).2.2
  | [], k => by simp [unpackL]
  | x :: xs, k => by
    have ih1 := unpackV_key t x k
    have ih2 := unpackL_key t xs (unpackV t x k).2.2
    unfold unpackL
    dsimp only
    refine ⟨by omega, fun u hu => ?_⟩
    rw [List.map_append, List.mem_append] at hu
    rcases hu with hu | hu
    · have := ih1.2 u hu; exact ⟨this.1, this.2.1, by omega⟩
    · have := ih2.2 u hu; exact ⟨this.1, by omega, this.2.2⟩
end

mutual
theorem unpackV_rep (t : Nat) : ∀ (x : IV) (k : Nat) {L0 : Vl} {v : Value} {bs : List Nat}, IV.Rep H w x v bs → bs.Nodup → (∀ b ∈ bs, H b = none ∧ X.Mine b) → (∀ j, k ≤ j → j < (unpackV t x k).2.2 → L0 (t, j) = none) →
    ∃ L, Laid X H w L0 L (unpackV t x k).2.1 bs ∧ (unpackV t x k).1.Rep H L v
  | .dead, k, L0, v, bs, h, _, _, _ => by
    unfold IV.Rep at h; subst h
    exact ⟨L0, Laid.nil L0, trivial⟩
  | .d x, k, L0, v, bs, h, _, _, _ => by
    unfold IV.Rep at h
    obtain ⟨h, rfl⟩ := h
    exact ⟨L0, Laid.nil L0, by unfold unpackV Val.Rep; exact h⟩
  | .own nl e sz xs, k, L0, v, bs, h, hn, hm, hL => by
    unfold IV.Rep at h
    obtain ⟨cells, h1, h2, h3, h4, rfl⟩ := h
    refine ⟨L0.upd (t, k) v, Laid.one (hL k (Nat.le_refl k) (by simp [unpackV])) ⟨v, cells, upd_same _ _ _, h1, h2, h3, h4, fun b hb => ?_⟩ (by simp) (fun b hb => ?_), ?_⟩
    · simp only [if_true]
      exact hm b (by rw [hb]; simp)
    · cases v <;> simp [mutBlk] at hb
      rename_i A n c
      cases A <;> simp [mutBlk] at hb
      simp [Value.ownBlock, hb]
    · unfold unpackV Val.Rep
      refine ⟨upd_same _ _ _, ?_⟩
      rcases h1.2 with ⟨e0, _⟩ | ⟨_, _, _, e0, _⟩ <;> exact ⟨_, _, _, e0⟩
  | .ptr ty off cells, k, L0, v, bs, h, hn, hm, hL => by
    unfold IV.Rep at h
    obtain ⟨b, cur, bs', rfl, h2, h3, h4, rfl⟩ := h
    simp only [List.nodup_cons] at hn
    have hb := hm b (by simp)
    have hkl := (unpackL_key t cells (k + 1)).1
    unfold unpackV at hL ⊢
    dsimp only at hL ⊢
    split
    · rename_i hall
      rw [if_pos hall] at hL
      dsimp only at hL
      have hL1 : ∀ j, k + 1 ≤ j → j < (unpackL t cells (k + 1)).2.2 → (L0.upd (t, k) (.pointer (some ⟨b, 0, none⟩))) (t, j) = none := fun j hj hj2 => by
        unfold Vl.upd
        rw [if_neg (by simp; omega)]
        exact hL j (by omega) hj2
      obtain ⟨L, g1, g2⟩ := unpackL_rep t cells (k + 1) (L0 := L0.upd (t, k) (.pointer (some ⟨b, 0, none⟩))) h3 hn.2 (fun b' hb' => hm b' (by simp [hb'])) hL1
      have hLk : L (t, k) = some (.pointer (some ⟨b, 0, none⟩)) := g1.le _ _ (upd_same _ _ _)
      have hone : Laid X H w L0 (L0.upd (t, k) (.pointer (some ⟨b, 0, none⟩))) [((t, k), .gone)] [b] :=
        Laid.one (hL k (Nat.le_refl k) (by omega)) trivial (by simp) (by simp [mutBlk])
      have hkeys := (unpackL_key t cells (k + 1)).2
      have hap := hone.append g1 (fun u hu hu' => by
        simp at hu
        subst hu
        have := hkeys _ hu'
        simp at this
        omega) (fun b' hb' => by simp at hb'; subst hb'; exact hn.1)
      refine ⟨L, ⟨hap.le, hap.key, fun u e he => ?_, fun u e b' he hmb => ?_, fun u e u' e' b' he he' hne hmb hmb' => ?_, fun u e he => ?_, hap.keys⟩, ?_⟩
      · rcases List.mem_cons.1 he with he | he
        · cases he
          exact ⟨b, cur, hLk, h2, g2, fun c hc => List.all_eq_true.1 hall c hc, hb⟩
        · exact g1.inv u e he
      · rcases List.mem_cons.1 he with he | he
        · cases he
          rw [hLk] at hmb
          simp [mutBlk] at hmb
          simp [hmb]
        · exact List.mem_cons_of_mem _ (g1.blk u e b' he hmb)
      · rcases List.mem_cons.1 he with he | he <;> rcases List.mem_cons.1 he' with he' | he'
        · cases he; cases he'; exact hne rfl
        · cases he
          rw [hLk] at hmb
          simp [mutBlk] at hmb
          subst hmb
          exact hn.1 (g1.blk u' e' _ he' hmb')
        · cases he'
          rw [hLk] at hmb'
          simp [mutBlk] at hmb'
          subst hmb'
          exact hn.1 (g1.blk u e _ he hmb)
        · exact g1.apart u e u' e' b' he he' hne hmb hmb'
      · rcases List.mem_cons.1 he with he | he
        · cases he; simp
        · exact g1.nofr u e he
      · unfold Val.Rep
        exact ⟨b, hLk, rfl⟩
    · refine ⟨L0, ⟨Vl.le_refl _, fun _ => .inl rfl, by simp, by simp, by simp, by simp, by simp⟩, trivial⟩
  | .dbox ty off cells, k, L0, v, bs, h, hn, hm, hL => by
    unfold IV.Rep at h
    obtain ⟨b, cur, rfl, h2, h3, h4, rfl⟩ := h
    have hb := hm b (by simp)
    refine ⟨L0.upd (t, k) (.pointer (some ⟨b, 0, none⟩)), Laid.one (hL k (Nat.le_refl k) (by simp [unpackV])) ⟨b, cur, upd_same _ _ _, h2, h3, h4, hb⟩ (by simp) (fun b' hb' => by simp [mutBlk] at hb'; simp [hb']), ?_⟩
    unfold unpackV Val.Rep
    exact ⟨b, upd_same _ _ _, rfl⟩
  | .dptr xs, k, L0, v, bs, h, _, _, _ => by
    unfold IV.Rep at h
    obtain ⟨h, rfl⟩ := h
    exact ⟨L0, Laid.nil L0, by unfold unpackV Val.Rep; exact h⟩
  | .fn f caps, k, L0, v, bs, h, hn, hm, hL => by
    unfold IV.Rep at h
    obtain ⟨arr, rfl, h1⟩ := h
    unfold unpackV at hL
    obtain ⟨L, g1, g2⟩ := unpackL_rep t caps k h1 hn hm hL
    refine ⟨L, by unfold unpackV; exact g1, ?_⟩
    unfold unpackV Val.Rep
    exact ⟨arr, rfl, g2⟩
  | .agg cs, k, L0, v, bs, h, hn, hm, hL => by
    unfold IV.Rep at h
    obtain ⟨arr, rfl, h1, h2⟩ := h
    unfold unpackV at hL ⊢
    dsimp only at hL ⊢
    split
    · rename_i hall
      rw [if_pos hall] at hL
      obtain ⟨L, g1, g2⟩ := unpackL_rep t cs k h1 hn hm hL
      refine ⟨L, g1, ?_⟩
      unfold Val.Rep
      exact ⟨arr, rfl, g2, fun c hc => List.all_eq_true.1 hall c hc⟩
    · exact ⟨L0, ⟨Vl.le_refl _, fun _ => .inl rfl, by simp, by simp, by simp, by simp, by simp⟩, trivial⟩
  | .tup vs, k, L0, v, bs, h, hn, hm, hL => by
    unfold IV.Rep at h
    obtain ⟨arr, rfl, h1⟩ := h
    unfold unpackV at hL
    obtain ⟨L, g1, g2⟩ := unpackL_rep t vs k h1 hn hm hL
    refine ⟨L, by unfold unpackV; exact g1, ?_⟩
    unfold unpackV Val.Rep
    exact ⟨arr, rfl, g2⟩
theorem unpackL_rep (t : Nat) : ∀ (xs : List IV) (k : Nat) {L0 : Vl} {vs : List Value} {bs : List Nat}, IV.RepL H w xs vs bs → bs.Nodup → (∀ b ∈ bs, H b = none ∧ X.Mine b) → (∀ j, k ≤ j → j < (unpackL t xs k).2.2 → L0 (t, j) = none) →
    ∃ L, Laid X H w L0 L (unpackL t xs k).2.1 bs ∧ Val.RepL H L (unpackL t xs k).1 vs
  | [], k, L0, vs, bs, h, _, _, _ => by
    unfold IV.RepL at h
    obtain ⟨rfl, rfl⟩ := h
    exact ⟨L0, Laid.nil L0, by unfold unpackL Val.RepL; rfl⟩
  | x :: xs, k, L0, vs, bs, h, hn, hm, hL => by
    unfold IV.RepL at h
    obtain ⟨v, r, b1, b2, rfl, rfl, h1, h2⟩ := h
    rw [List.nodup_append] at hn
    have hk1 := unpackV_key t x k
    have hk2 := unpackL_key t xs (unpackV t x k).2.2
    unfold unpackL at hL
    dsimp only at hL
    obtain ⟨L1, g1, g2⟩ := unpackV_rep t x k h1 hn.1 (fun b hb => hm b (by simp [hb])) (fun j hj hj2 => hL j hj (by omega))
    have hL1 : ∀ j, (unpackV t x k).2.2 ≤ j → j < (unpackL t xs (unpackV t x k).2.2).2.2 → L1 (t, j) = none := fun j hj hj2 => by
      rcases g1.key (t, j) with h | h
      · rw [h]; exact hL j (by omega) hj2
      · have := hk1.2 _ h
        simp at this
        omega
    obtain ⟨L2, k1, k2⟩ := unpackL_rep t xs (unpackV t x k).2.2 h2 hn.2.1 (fun b hb => hm b (by simp [hb])) hL1
    refine ⟨L2, ?_, ?_⟩
    · unfold unpackL
      dsimp only
      refine g1.append k1 (fun u hu hu' => ?_) (fun b hb hb' => hn.2.2 b hb b hb' rfl)
      have h3 := hk1.2 u hu
      have h4 := (unpackL_key t xs (unpackV t x k).2.2).2 u hu'
      omega
    · unfold unpackL Val.RepL
      exact ⟨v, r, rfl, Val.Rep.le (Fz.le_refl H) k1.le _ _ g2, k2⟩
end
end
end Go.Ab
