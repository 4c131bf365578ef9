/- The state of a run within a region, as the plain evaluator tells it. No condition. -/
import Derived.Test.YtoghhgceanlkkaaAbRep
set_option linter.unusedVariables false
set_option linter.unusedSimpArgs false
namespace Go.Ab
open Go

structure Cx where
  P : Program
  T : Tab
  w0 : World
  own0 : List Nat
  H0 : Fz
  N : Nat
  lk : List (Nat × Value)

/-- A block that the call may write. -/
def Cx.Mine (X : Cx) (b : Nat) : Prop := X.w0.heap.size ≤ b ∨ b ∈ X.own0
/-- All other blocks are as they were. -/
structure Framed (w0 : World) (own0 : List Nat) (w : World) : Prop where
  os : w.os = w0.os
  tape : w.tape = w0.tape
  output : w.output = w0.output
  size : w0.heap.size ≤ w.heap.size
  block : ∀ k, k < w0.heap.size → k ∉ own0 → w.heap[k]? = w0.heap[k]?

/-- The block that may be written through a token. -/
def mutBlk (e : Ent) (v : Option Value) : Option Nat :=
  match e, v with
  | .row true _ _ _ _, some (.slice (some a) _ _) => some a.block
  | .box _ _, some (.pointer (some a)) => some a.block
  | .dbox _ _, some (.pointer (some a)) => some a.block
  | _, _ => none

def EntInv (X : Cx) (H : Fz) (L : Vl) (w : World) (t : Tok) : Ent → Prop
  | .fresh => L t = none
  | .gone => True
  | .row m nl e sz xs => ∃ v cells, L t = some v ∧ w.ownsRow 0 e sz v xs.length cells ∧ D.RepL H xs cells ∧ (∀ x ∈ xs, x.width = sz) ∧ (nl = true ↔ v = .slice none 0 0) ∧
      ∀ b, v.ownBlock = some b → if m = true then H b = none ∧ X.Mine b else H b = w.heap[b]?
  | .box ty cells => ∃ b cur, L t = some (.pointer (some ⟨b, 0, none⟩)) ∧ w.heap[b]? = some (.cells cur ty (0, 0)) ∧ Val.RepL H L cells cur.toList ∧ (∀ c ∈ cells, c.isCell = true) ∧ H b = none ∧ X.Mine b
  | .dbox ty cells => ∃ b cur, L t = some (.pointer (some ⟨b, 0, none⟩)) ∧ w.heap[b]? = some (.cells cur ty (0, 0)) ∧ D.RepL H cells cur.toList ∧ (∀ c ∈ cells, c.isAgg = false) ∧ H b = none ∧ X.Mine b

structure Rel (X : Cx) (H : Fz) (L : Vl) (σ : St) (a : Act) (w : World) : Prop where
  le : X.H0.le H
  sub : H.sub w
  fr : Framed X.w0 X.own0 w
  defers : a.defers = []
  size : a.tmps.size = X.N
  env : ∀ i, (σ.getS i).Rep H L (a.tmps.getD i undef)
  ents : ∀ t, EntInv X H L w t (σ.getT t)
  apart : ∀ t t' b, t ≠ t' → mutBlk (σ.getT t) (L t) = some b → mutBlk (σ.getT t') (L t') ≠ some b
  lk : ∀ i v, (i, v) ∈ X.lk → a.tmps.getD i undef = v
  fz : ∀ k, ¬ X.Mine k → H k = X.H0 k

theorem assoc_aput {α β : Type} [DecidableEq α] (z : β) (l : List (α × β)) (i j : α) (v : β) : assoc z (aput l i v) j = if i = j then v else assoc z l j := by
  induction l with
  | nil => simp [aput, assoc]
  | cons p r ih =>
    obtain ⟨k, u⟩ := p
    unfold aput
    by_cases h : k = i
    · subst h
      simp only [if_true]
      unfold assoc
      by_cases h2 : k = j <;> simp [h2]
    · rw [if_neg h]
      unfold assoc
      by_cases h2 : k = j
      · subst h2
        simp [Ne.symm h]
      · rw [if_neg h2, ih, if_neg h2]
theorem St.getS_putS (σ : St) (i j : Nat) (v : Val) : (σ.putS i v).getS j = if i = j then v else σ.getS j := assoc_aput _ _ _ _ _
theorem St.getT_putS (σ : St) (i : Nat) (t : Tok) (v : Val) : (σ.putS i v).getT t = σ.getT t := rfl
theorem St.getS_putT (σ : St) (i : Nat) (t : Tok) (e : Ent) : (σ.putT t e).getS i = σ.getS i := rfl
theorem St.getT_putT (σ : St) (t u : Tok) (e : Ent) : (σ.putT t e).getT u = if t = u then e else σ.getT u := assoc_aput _ _ _ _ _

section
variable {X : Cx} {H : Fz} {L : Vl} {σ : St} {a : Act} {w : World}

theorem getD_put (a : Act) (d i : Nat) (v : Value) : (a.put (some d) v).tmps.getD i undef = if d = i ∧ d < a.tmps.size then v else a.tmps.getD i undef := by
  simp only [Act.put, Array.getD_eq_getD_getElem?]
  by_cases h : d = i
  · subst h
    by_cases h2 : d < a.tmps.size
    · simp [h2]
    · simp [h2, Array.getElem?_eq_none (Nat.le_of_not_lt h2)]
  · rw [Array.getElem?_setIfInBounds_ne h]
    simp [h]

/-- A value comes into a slot. -/
theorem Rel.put (r : Rel X H L σ a w) {d : Nat} {x : Val} {v : Value} (hd : d < X.N) (hl : ∀ u, (d, u) ∉ X.lk) (hx : x.Rep H L v) : Rel X H L (σ.putS d x) (a.put (some d) v) w where
  le := r.le
  sub := r.sub
  fr := r.fr
  defers := r.defers
  size := by simp [Act.put, r.size]
  env := fun i => by
    rw [St.getS_putS, getD_put, r.size]
    by_cases h : d = i
    · subst h; simp [hd]; exact hx
    · rw [if_neg h, if_neg (fun x => h x.1)]; exact r.env i
  ents := r.ents
  apart := r.apart
  lk := fun i u hu => by
    rw [getD_put]
    by_cases h : d = i
    · subst h; exact absurd hu (hl u)
    · rw [if_neg (fun x => h x.1)]; exact r.lk i u hu
  fz := r.fz
theorem Rel.put_out (r : Rel X H L σ a w) {d : Nat} {x : Val} {v : Value} (hd : ¬ d < X.N) : (a.put (some d) v) = a := by
  simp only [Act.put]
  rw [Array.setIfInBounds_eq_of_size_le (by rw [r.size]; omega)]

theorem Framed.refl (w : World) (o : List Nat) : Framed w o w := ⟨rfl, rfl, rfl, Nat.le_refl _, fun _ _ _ => rfl⟩
theorem Framed.alloc {w0 w : World} {o : List Nat} (h : Framed w0 o w) (ob : Obj) : Framed w0 o (w.alloc ob) :=
  ⟨h.os, h.tape, h.output, by simp; have := h.size; omega, fun k hk hn => (heap_alloc_old w ob k (Nat.lt_of_lt_of_le hk h.size)).trans (h.block k hk hn)⟩
theorem Framed.grown {w0 w w1 : World} {o : List Nat} (h : Framed w0 o w) {row : Option Nat} (hg : w.grownBy w1 row) (hr : ∀ b, row = some b → w0.heap.size ≤ b ∨ b ∈ o) : Framed w0 o w1 :=
  ⟨hg.os.trans h.os, hg.tape.trans h.tape, hg.output.trans h.output, Nat.le_trans h.size hg.size, fun k hk hn => by
    refine (hg.block k (Nat.lt_of_lt_of_le hk h.size) ?_).trans (h.block k hk hn)
    intro e
    rcases hr k e.symm with h1 | h1
    · omega
    · exact hn h1⟩
theorem Fz.sub_grown {H : Fz} {w w1 : World} (h : H.sub w) {row : Option Nat} (hg : w.grownBy w1 row) (hr : ∀ b, row = some b → H b = none) : H.sub w1 := fun k o hk => by
  have h1 := h k o hk
  refine (hg.block k (Array.getElem?_eq_some_iff.1 h1).1 ?_).trans h1
  intro e
  rw [hr k e.symm] at hk
  cases hk
theorem Fz.sub_alloc {H : Fz} {w : World} (h : H.sub w) (o : Obj) : H.sub (w.alloc o) := fun k o' hk => by
  have h1 := h k o' hk
  exact (heap_alloc_old w o k (Array.getElem?_eq_some_iff.1 h1).1).trans h1
theorem Fz.none_new {H : Fz} {w : World} (h : H.sub w) {k : Nat} (hk : w.heap.size ≤ k) : H k = none := by
  cases hb : H k with
  | none => rfl
  | some o =>
    have := (Array.getElem?_eq_some_iff.1 (h k o hb)).1
    omega

theorem ownsRow_old {w w1 : World} {e : TypeId} {sz n : Nat} {v : Value} {xs : List Value} (h : w.ownsRow 0 e sz v n xs) (hb : ∀ b, v.ownBlock = some b → w1.heap[b]? = w.heap[b]?) : w1.ownsRow 0 e sz v n xs := by
  refine ⟨h.1, ?_⟩
  rcases h.2 with h1 | ⟨g, cap, cur, rfl, h0, h2, h3⟩
  · exact .inl h1
  · exact .inr ⟨g, cap, cur, rfl, h0, (hb g rfl).trans h2, h3⟩
theorem ownsRow_lt {w : World} {e : TypeId} {sz n : Nat} {v : Value} {xs : List Value} (h : w.ownsRow 0 e sz v n xs) {b : Nat} (hb : v.ownBlock = some b) : b < w.heap.size := by
  rcases h.2 with ⟨rfl, _⟩ | ⟨g, cap, cur, rfl, h0, h2, h3⟩
  · simp [Value.ownBlock] at hb
  · simp [Value.ownBlock] at hb; subst hb; exact (Array.getElem?_eq_some_iff.1 h2).1

/-- What stands at a token stays so in a world in which its block is as it was. -/
theorem EntInv.keep {t : Tok} {e : Ent} {w1 : World} {L' : Vl} {H' : Fz} (h : EntInv X H L w t e) (hL : L.le L') (hf : e = .fresh → L' t = none) (hH : H.le H') (hs' : H'.sub w1)
    (hb : ∀ b, mutBlk e (L t) = some b → w1.heap[b]? = w.heap[b]? ∧ H' b = none) (hs : H.sub w) (hs1 : H.sub w1) : EntInv X H' L' w1 t e := by
  cases e with
  | fresh => exact hf rfl
  | gone => trivial
  | row m nl ty sz xs =>
    obtain ⟨v, cells, h1, h2, h3, h4, h5, h6⟩ := h
    refine ⟨v, cells, hL _ _ h1, ?_, D.RepL.le hH _ _ h3, h4, h5, ?_⟩
    · refine ownsRow_old h2 fun b hv => ?_
      have h7 := h6 b hv
      by_cases hm : m = true
      · subst hm
        refine (hb b ?_).1
        rw [h1]
        cases v <;> simp [Value.ownBlock] at hv
        rename_i A n c
        cases A <;> simp at hv
        simp [mutBlk, hv]
      · simp only [hm] at h7
        have hlt := ownsRow_lt h2 hv
        have h8 : H b = some w.heap[b] := h7.trans (Array.getElem?_eq_getElem hlt)
        rw [hs1 _ _ h8]
        exact (Array.getElem?_eq_getElem hlt).symm
    · intro b hv
      have h7 := h6 b hv
      by_cases hm : m = true
      · subst hm
        simp only [if_true] at h7 ⊢
        refine ⟨(hb b ?_).2, h7.2⟩
        rw [h1]
        cases v <;> simp [Value.ownBlock] at hv
        rename_i A n c
        cases A <;> simp at hv
        simp [mutBlk, hv]
      · simp only [hm] at h7 ⊢
        have hlt := ownsRow_lt h2 hv
        have h8 : H b = some w.heap[b] := h7.trans (Array.getElem?_eq_getElem hlt)
        have h9 := hH _ _ h8
        exact h9.trans (hs' _ _ h9).symm
  | box ty cells =>
    obtain ⟨b, cur, h1, h2, h3, h4, h5, h6⟩ := h
    have h7 := hb b (by simp [mutBlk, h1])
    exact ⟨b, cur, hL _ _ h1, h7.1.trans h2, Val.RepL.le hH hL _ _ h3, h4, h7.2, h6⟩
  | dbox ty cells =>
    obtain ⟨b, cur, h1, h2, h3, h4, h5, h6⟩ := h
    have h7 := hb b (by simp [mutBlk, h1])
    exact ⟨b, cur, hL _ _ h1, h7.1.trans h2, D.RepL.le hH _ _ h3, h4, h7.2, h6⟩
theorem EntInv.lt {t : Tok} {e : Ent} (h : EntInv X H L w t e) {b : Nat} (hb : mutBlk e (L t) = some b) : b < w.heap.size ∧ H b = none ∧ X.Mine b := by
  cases e with
  | fresh => simp [mutBlk] at hb
  | gone => simp [mutBlk] at hb
  | row m nl ty sz xs =>
    obtain ⟨v, cells, h1, h2, h3, h4, h5, h6⟩ := h
    rw [h1] at hb
    cases m with
    | false => simp [mutBlk] at hb
    | true =>
    cases v <;> simp [mutBlk] at hb
    rename_i A n c
    cases A <;> simp [mutBlk] at hb
    have h7 := h6 b (by simp [Value.ownBlock, hb])
    simp only [if_true] at h7
    exact ⟨ownsRow_lt h2 (by simp [Value.ownBlock, hb]), h7⟩
  | box ty cells =>
    obtain ⟨b', cur, h1, h2, h3, h4, h5, h6⟩ := h
    simp [mutBlk, h1] at hb
    subst hb
    exact ⟨(Array.getElem?_eq_some_iff.1 h2).1, h5, h6⟩
  | dbox ty cells =>
    obtain ⟨b', cur, h1, h2, h3, h4, h5, h6⟩ := h
    simp [mutBlk, h1] at hb
    subst hb
    exact ⟨(Array.getElem?_eq_some_iff.1 h2).1, h5, h6⟩
end
end Go.Ab
