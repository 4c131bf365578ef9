/- How the state of a run moves: new memory, memory that is written, memory that is never written again. No condition. -/
import Derived.Test.YtoghhgceanlkkaaAbRel
set_option linter.unusedVariables false
set_option linter.unusedSimpArgs false
namespace Go.Ab
open Go

def Vl.upd (L : Vl) (t : Tok) (v : Value) : Vl := fun u => if t = u then some v else L u
theorem Vl.le_upd {L : Vl} {t : Tok} (h : L t = none) (v : Value) : L.le (L.upd t v) := fun u x hx => by
  unfold Vl.upd
  by_cases e : t = u
  · subst e; rw [h] at hx; cases hx
  · rw [if_neg e]; exact hx
def Fz.upd (H : Fz) (b : Nat) (o : Obj) : Fz := fun k => if b = k then some o else H k
theorem Fz.le_upd {H : Fz} {b : Nat} (h : H b = none) (o : Obj) : H.le (H.upd b o) := fun u x hx => by
  unfold Fz.upd
  by_cases e : b = u
  · subst e; rw [h] at hx; cases hx
  · rw [if_neg e]; exact hx

section
variable {X : Cx} {H : Fz} {L : Vl} {σ : St} {a : Act} {w : World}

/-- The general move: the entries at some tokens change, a token comes, blocks that nobody else may write are written. -/
theorem Rel.move (r : Rel X H L σ a w) {σ' : St} {w1 : World} {L' : Vl} {H' : Fz} (henv : ∀ i, σ'.getS i = σ.getS i) (hL : L.le L') (hH : H.le H') (hs : H'.sub w1) (hfr : Framed X.w0 X.own0 w1) (hs1 : H.sub w1)
    (S : Tok → Prop) (hsame : ∀ t, ¬ S t → σ'.getT t = σ.getT t ∧ L' t = L t)
    (hblk : ∀ t b, ¬ S t → mutBlk (σ.getT t) (L t) = some b → w1.heap[b]? = w.heap[b]? ∧ H' b = none)
    (hnew : ∀ t, S t → EntInv X H' L' w1 t (σ'.getT t))
    (hap : ∀ t t' b, S t → t ≠ t' → mutBlk (σ'.getT t) (L' t) = some b → mutBlk (σ'.getT t') (L' t') ≠ some b) (hfz : ∀ k, ¬ X.Mine k → H' k = H k := by intros; rfl) : Rel X H' L' σ' a w1 where
  fz := fun k hk => (hfz k hk).trans (r.fz k hk)
  le := Fz.le_trans r.le hH
  sub := hs
  fr := hfr
  defers := r.defers
  size := r.size
  env := fun i => by rw [henv]; exact Val.Rep.le hH hL _ _ (r.env i)
  ents := fun t => by
    by_cases h : S t
    · exact hnew t h
    · have h1 := hsame t h
      rw [h1.1]
      refine (r.ents t).keep hL (fun he => ?_) hH hs (fun b hb => hblk t b h hb) r.sub hs1
      have := r.ents t
      rw [he] at this
      rw [h1.2]; exact this
  apart := fun t t' b hne hb hb' => by
    by_cases h : S t
    · exact hap t t' b h hne hb hb'
    · by_cases h' : S t'
      · exact hap t' t b h' (Ne.symm hne) hb' hb
      · have h1 := hsame t h
        have h2 := hsame t' h'
        rw [h1.1, h1.2] at hb
        rw [h2.1, h2.2] at hb'
        exact r.apart t t' b hne hb hb'
  lk := r.lk

/-- New memory. -/
theorem Rel.make (r : Rel X H L σ a w) {t : Tok} (hf : σ.getT t = .fresh) {w1 : World} {v : Value} {e : Ent} (hw : ∀ k, k < w.heap.size → w1.heap[k]? = w.heap[k]?) (hfr : Framed X.w0 X.own0 w1)
    (he : EntInv X H (L.upd t v) w1 t e) (hm : ∀ b, mutBlk e (some v) = some b → w.heap.size ≤ b) : Rel X H (L.upd t v) (σ.putT t e) a w1 := by
  have hLt : L t = none := by have := r.ents t; rw [hf] at this; exact this
  have hs1 : H.sub w1 := fun k o hk => by
    have h1 := r.sub k o hk
    exact (hw k (Array.getElem?_eq_some_iff.1 h1).1).trans h1
  refine r.move (fun i => rfl) (Vl.le_upd hLt v) (Fz.le_refl H) hs1 hfr hs1 (fun u => t = u) (fun u hu => ?_) (fun u b hu hb => ?_) (fun u hu => ?_) (fun u u' b hu hne hb hb' => ?_)
  · exact ⟨by rw [St.getT_putT, if_neg hu], by unfold Vl.upd; rw [if_neg hu]⟩
  · have := (r.ents u).lt hb
    exact ⟨hw b this.1, this.2.1⟩
  · subst hu
    rw [St.getT_putT, if_pos rfl]
    exact he
  · subst hu
    rw [St.getT_putT, if_pos rfl] at hb
    have h1 := hm b (by simpa [Vl.upd] using hb)
    rw [St.getT_putT, if_neg hne] at hb'
    have h3 : (L.upd t v) u' = L u' := by unfold Vl.upd; rw [if_neg hne]
    rw [h3] at hb'
    have := ((r.ents u').lt hb').1
    omega

/-- A row is written, or moves: its old token is gone, a new one comes. -/
theorem Rel.turn (r : Rel X H L σ a w) {t0 t : Tok} (hf : σ.getT t = .fresh) {nl : Bool} {e0 : TypeId} {sz0 : Nat} {xs0 : List D} {v0 : Value} (h0 : σ.getT t0 = .row true nl e0 sz0 xs0) (hv0 : L t0 = some v0)
    {w1 : World} {v : Value} {e : Ent} (hg : w.grownBy w1 v0.ownBlock)
    (he : EntInv X H (L.upd t v) w1 t e) (hm : ∀ b, mutBlk e (some v) = some b → v0.ownBlock = some b ∨ w.heap.size ≤ b) : Rel X H (L.upd t v) ((σ.putT t0 .gone).putT t e) a w1 := by
  have hLt : L t = none := by have := r.ents t; rw [hf] at this; exact this
  have hne0 : t0 ≠ t := fun h => by subst h; rw [h0] at hf; cases hf
  have hb0 : ∀ b, v0.ownBlock = some b → mutBlk (σ.getT t0) (L t0) = some b := fun b hb => by
    rw [h0, hv0]
    cases v0 <;> simp [Value.ownBlock] at hb
    rename_i A n c
    cases A <;> simp at hb
    simp [mutBlk, hb]
  have hmine : ∀ b, v0.ownBlock = some b → b < w.heap.size ∧ H b = none ∧ X.Mine b := fun b hb => (r.ents t0).lt (hb0 b hb)
  have hs1 : H.sub w1 := Fz.sub_grown r.sub hg (fun b hb => (hmine b hb).2.1)
  refine r.move (fun i => rfl) (Vl.le_upd hLt v) (Fz.le_refl H) hs1 (r.fr.grown hg (fun b hb => (hmine b hb).2.2)) hs1 (fun u => t = u ∨ t0 = u) (fun u hu => ?_) (fun u b hu hb => ?_) (fun u hu => ?_) (fun u u' b hu hne hb hb' => ?_)
  · have h1 : t ≠ u := fun h => hu (.inl h)
    have h2 : t0 ≠ u := fun h => hu (.inr h)
    exact ⟨by rw [St.getT_putT, if_neg h1, St.getT_putT, if_neg h2], by unfold Vl.upd; rw [if_neg h1]⟩
  · have h2 : t0 ≠ u := fun h => hu (.inr h)
    have h3 := (r.ents u).lt hb
    refine ⟨hg.block b h3.1 (fun h => ?_), h3.2.1⟩
    exact r.apart t0 u b h2 (hb0 b h.symm) hb
  · rcases hu with rfl | rfl
    · rw [St.getT_putT, if_pos rfl]; exact he
    · rw [St.getT_putT, if_neg (Ne.symm hne0), St.getT_putT, if_pos rfl]; trivial
  · rcases hu with rfl | rfl
    · rw [St.getT_putT, if_pos rfl] at hb
      have h1 := hm b (by simpa [Vl.upd] using hb)
      rw [St.getT_putT, if_neg hne] at hb'
      have h3 : (L.upd t v) u' = L u' := by unfold Vl.upd; rw [if_neg hne]
      rw [h3] at hb'
      rw [St.getT_putT] at hb'
      by_cases h4 : t0 = u'
      · rw [if_pos h4] at hb'; simp [mutBlk] at hb'
      · rw [if_neg h4] at hb'
        rcases h1 with h1 | h1
        · exact r.apart t0 u' b h4 (hb0 b h1) hb'
        · have := ((r.ents u').lt hb').1
          omega
    · rw [St.getT_putT, if_neg (Ne.symm hne0), St.getT_putT, if_pos rfl] at hb
      simp [mutBlk] at hb

/-- What stands at a token is written in place. -/
theorem Rel.write (r : Rel X H L σ a w) {t : Tok} {e : Ent} {b0 : Nat} (hb0 : mutBlk (σ.getT t) (L t) = some b0) {w1 : World} (hg : w.grownBy w1 (some b0))
    (he : EntInv X H L w1 t e) (hm : mutBlk e (L t) = some b0) : Rel X H L (σ.putT t e) a w1 := by
  have hmine := (r.ents t).lt hb0
  have hs1 : H.sub w1 := Fz.sub_grown r.sub hg (fun b hb => by cases hb; exact hmine.2.1)
  refine r.move (fun i => rfl) (Vl.le_refl L) (Fz.le_refl H) hs1 (r.fr.grown hg (fun b hb => by cases hb; exact hmine.2.2)) hs1 (fun u => t = u) (fun u hu => ?_) (fun u b hu hb => ?_) (fun u hu => ?_) (fun u u' b hu hne hb hb' => ?_)
  · exact ⟨by rw [St.getT_putT, if_neg hu], rfl⟩
  · have h3 := (r.ents u).lt hb
    refine ⟨hg.block b h3.1 (fun h => ?_), h3.2.1⟩
    injection h with h
    rw [h] at hb
    exact r.apart t u b0 hu hb0 hb
  · subst hu
    rw [St.getT_putT, if_pos rfl]; exact he
  · subst hu
    rw [St.getT_putT, if_pos rfl, hm] at hb
    cases hb
    rw [St.getT_putT, if_neg hne] at hb'
    exact r.apart t u' b0 hne hb0 hb'

/-- A row is never written again. -/
theorem Rel.freeze (r : Rel X H L σ a w) {t : Tok} {nl : Bool} {e : TypeId} {sz : Nat} {xs : List D} (h0 : σ.getT t = .row true nl e sz xs) :
    ∃ H', H.le H' ∧ Rel X H' L (σ.putT t (.row false nl e sz xs)) a w := by
  have hent := r.ents t
  rw [h0] at hent
  obtain ⟨v, cells, h1, h2, h3, h4, h5, h6⟩ := hent
  simp only [if_true] at h6
  cases hb : v.ownBlock with
  | none =>
    refine ⟨H, Fz.le_refl H, r.move (fun i => rfl) (Vl.le_refl L) (Fz.le_refl H) r.sub r.fr r.sub (fun u => t = u) (fun u hu => ⟨by rw [St.getT_putT, if_neg hu], rfl⟩) (fun u b hu hb => ⟨rfl, ((r.ents u).lt hb).2.1⟩) (fun u hu => ?_) (fun u u1 b hu hne hb1 => ?_)⟩
    · subst hu
      rw [St.getT_putT, if_pos rfl]
      exact ⟨v, cells, h1, h2, h3, h4, h5, fun b hb' => by rw [hb] at hb'; cases hb'⟩
    · subst hu
      rw [St.getT_putT, if_pos rfl] at hb1
      simp [mutBlk] at hb1
  | some b =>
    have h7 := h6 b hb
    have hlt := ownsRow_lt h2 hb
    have hm : mutBlk (σ.getT t) (L t) = some b := by
      rw [h0, h1]
      cases v <;> simp [Value.ownBlock] at hb
      rename_i A n c
      cases A <;> simp at hb
      simp [mutBlk, hb]
    have hle := Fz.le_upd h7.1 (w.heap[b])
    refine ⟨H.upd b (w.heap[b]), hle, r.move (fun i => rfl) (Vl.le_refl L) hle (fun k o hk => ?_) r.fr r.sub (fun u => t = u) (fun u hu => ⟨by rw [St.getT_putT, if_neg hu], rfl⟩) (fun u b' hu hb' => ⟨rfl, ?_⟩) (fun u hu => ?_) (fun u u1 b1 hu hne hb1 => ?_) (fun k hk => by
        have hne : b ≠ k := fun e => hk (e ▸ h7.2)
        simp [Fz.upd, hne])⟩
    · unfold Fz.upd at hk
      by_cases e : b = k
      · subst e
        rw [if_pos rfl] at hk
        cases hk
        exact Array.getElem?_eq_getElem hlt
      · rw [if_neg e] at hk
        exact r.sub k o hk
    · have h8 := ((r.ents u).lt hb').2.1
      unfold Fz.upd
      have : b ≠ b' := fun e => by subst e; exact r.apart t u b hu hm hb'
      rw [if_neg this]; exact h8
    · subst hu
      rw [St.getT_putT, if_pos rfl]
      refine ⟨v, cells, h1, h2, D.RepL.le hle _ _ h3, h4, h5, fun b' hb' => ?_⟩
      rw [hb] at hb'
      cases hb'
      simp [Fz.upd, Array.getElem?_eq_getElem hlt]
    · subst hu
      rw [St.getT_putT, if_pos rfl] at hb1
      simp [mutBlk] at hb1
end
end Go.Ab
