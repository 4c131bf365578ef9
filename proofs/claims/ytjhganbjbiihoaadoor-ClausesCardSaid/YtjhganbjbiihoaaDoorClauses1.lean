/- What data of the plain evaluator is in the machine's memory. No condition. -/
import Derived.Below
import Derived.Laws.OwnMore
import Derived.Test.YtjhganbjbiihoaaDoorClauses0
namespace Go.Ab
open Go

abbrev Fz := Nat → Option Obj
/-- A cell of what is never written any more. -/
def cellH (H : Fz) (a : Addr) : Option Value :=
  match H a.block with
  | some (.cells c _ _) => if a.spot.isSome then none else c[a.off]?
  | _ => none
def Fz.le (H H' : Fz) : Prop := ∀ k o, H k = some o → H' k = some o
def Fz.sub (H : Fz) (w : World) : Prop := ∀ k o, H k = some o → w.heap[k]? = some o
theorem Fz.le_refl (H : Fz) : H.le H := fun _ _ h => h
theorem Fz.le_trans {H H' H'' : Fz} (h : H.le H') (h' : H'.le H'') : H.le H'' := fun k o x => h' k o (h k o x)
theorem cellH_le {H H' : Fz} (h : H.le H') {a : Addr} {v : Value} (hc : cellH H a = some v) : cellH H' a = some v := by
  unfold cellH at *
  cases hb : H a.block with
  | none => rw [hb] at hc; cases hc
  | some o => rw [hb] at hc; rw [h _ _ hb]; exact hc
theorem cellH_sub {H : Fz} {w : World} (h : H.sub w) {a : Addr} {v : Value} (hc : cellH H a = some v) : w.cell? a = some v := by
  unfold cellH at hc
  unfold World.cell?
  cases hb : H a.block with
  | none => rw [hb] at hc; cases hc
  | some o => rw [hb] at hc; rw [h _ _ hb]; exact hc

/-- Cells of frozen memory from an address on. -/
def Lies (H : Fz) (a : Addr) (cs : List Value) : Prop := ∀ j u, cs[j]? = some u → cellH H (a.add j) = some u
theorem Lies.le {H H' : Fz} (h : H.le H') {a : Addr} {cs : List Value} (hl : Lies H a cs) : Lies H' a cs := fun j u hj => cellH_le h (hl j u hj)

mutual
def D.Rep (H : Fz) : D → List Value → Prop
  | .int k n, vs => vs = [.int k n]
  | .bool b, vs => vs = [.bool b]
  | .flt k b, vs => vs = [.float k b]
  | .cpx k a b, vs => vs = [.complex k a b]
  | .str s, vs => vs = [.string s]
  | .sl sz nl xs ext, vs => (nl = true ∧ xs = [] ∧ ext = [] ∧ vs = [.slice none 0 0]) ∨
      (nl = false ∧ ∃ a cap c1 c2, vs = [.slice (some a) xs.length cap] ∧ xs.length + ext.length ≤ cap ∧ cap ≤ maxLen ∧ Lies H a (c1 ++ c2) ∧ D.RepL H xs c1 ∧ D.RepL H ext c2 ∧ (∀ x ∈ xs, x.width = sz) ∧ ∀ x ∈ ext, x.width = sz)
  | .agg cs, vs => D.RepL H cs vs ∧ ∀ c ∈ cs, c.isAgg = false
  | .nilp, vs => vs = [.pointer none]
  | .fn f, vs => vs = [.func (.func f) #[] #[]]
  | .nilf, vs => vs = [.nilFunc]
  | .ifc nl, vs => ∃ v, vs = [v] ∧ ((nl = true ∧ v = .nilIface) ∨ (nl = false ∧ ∃ t p, v = .iface t p))
  | .anyi k, vs => ∃ v, vs = [v] ∧ ∃ n, v = .int k n
def D.RepL (H : Fz) : List D → List Value → Prop
  | [], vs => vs = []
  | x :: xs, vs => ∃ a b, vs = a ++ b ∧ D.Rep H x a ∧ D.RepL H xs b
end

mutual
theorem D.Rep.le {H H' : Fz} (h : H.le H') : ∀ (x : D) (vs : List Value), x.Rep H vs → x.Rep H' vs
  | .int _ _, _, r => r
  | .bool _, _, r => r
  | .flt _ _, _, r => r
  | .cpx _ _ _, _, r => r
  | .str _, _, r => r
  | .sl sz nl xs ext, vs, r => by
    unfold D.Rep at *
    rcases r with r | ⟨h0, a, cap, c1, c2, h1, h2, h3, h4, h5, h6, h7, h8⟩
    · exact .inl r
    · exact .inr ⟨h0, a, cap, c1, c2, h1, h2, h3, h4.le h, D.RepL.le h xs c1 h5, D.RepL.le h ext c2 h6, h7, h8⟩
  | .agg cs, vs, r => by
    unfold D.Rep at *
    exact ⟨D.RepL.le h cs vs r.1, r.2⟩
  | .nilp, _, r => r
  | .fn _, _, r => r
  | .nilf, _, r => r
  | .ifc _, _, r => r
  | .anyi _, _, r => r
theorem D.RepL.le {H H' : Fz} (h : H.le H') : ∀ (xs : List D) (vs : List Value), D.RepL H xs vs → D.RepL H' xs vs
  | [], _, r => r
  | x :: xs, vs, r => by
    unfold D.RepL at *
    obtain ⟨a, b, h1, h2, h3⟩ := r
    exact ⟨a, b, h1, D.Rep.le h x a h2, D.RepL.le h xs b h3⟩
end
mutual
theorem D.Rep.len {H : Fz} : ∀ (x : D) (vs : List Value), x.Rep H vs → vs.length = x.width
  | .int _ _, _, r => by unfold D.Rep at r; subst r; rfl
  | .bool _, _, r => by unfold D.Rep at r; subst r; rfl
  | .flt _ _, _, r => by unfold D.Rep at r; subst r; rfl
  | .cpx _ _ _, _, r => by unfold D.Rep at r; subst r; rfl
  | .str _, _, r => by unfold D.Rep at r; subst r; rfl
  | .sl _ _ _ _, _, r => by
    unfold D.Rep at r
    rcases r with ⟨_, _, _, rfl⟩ | ⟨_, _, _, _, _, rfl, _⟩ <;> rfl
  | .agg cs, vs, r => by unfold D.Rep at r; unfold D.width; exact D.RepL.len cs vs r.1
  | .nilp, _, r => by unfold D.Rep at r; subst r; rfl
  | .fn _, _, r => by unfold D.Rep at r; subst r; rfl
  | .nilf, _, r => by unfold D.Rep at r; subst r; rfl
  | .ifc _, _, r => by unfold D.Rep at r; obtain ⟨_, rfl, _⟩ := r; rfl
  | .anyi _, _, r => by unfold D.Rep at r; obtain ⟨_, rfl, _⟩ := r; rfl
theorem D.RepL.len {H : Fz} : ∀ (xs : List D) (vs : List Value), D.RepL H xs vs → vs.length = D.widthL xs
  | [], _, r => by unfold D.RepL at r; subst r; rfl
  | x :: xs, vs, r => by
    unfold D.RepL at r
    obtain ⟨a, b, rfl, h2, h3⟩ := r
    unfold D.widthL
    rw [List.length_append, D.Rep.len x a h2, D.RepL.len xs b h3]
end
mutual
theorem D.Rep.one {H : Fz} : ∀ (x : D) (vs : List Value), x.Rep H vs → ∀ u ∈ vs, u.oneCell' = true
  | .int _ _, _, r, u, hu => by unfold D.Rep at r; subst r; simp at hu; subst hu; rfl
  | .bool _, _, r, u, hu => by unfold D.Rep at r; subst r; simp at hu; subst hu; rfl
  | .flt _ _, _, r, u, hu => by unfold D.Rep at r; subst r; simp at hu; subst hu; rfl
  | .cpx _ _ _, _, r, u, hu => by unfold D.Rep at r; subst r; simp at hu; subst hu; rfl
  | .str _, _, r, u, hu => by unfold D.Rep at r; subst r; simp at hu; subst hu; rfl
  | .sl _ _ _ _, _, r, u, hu => by
    unfold D.Rep at r
    rcases r with ⟨_, _, _, rfl⟩ | ⟨_, _, _, _, _, rfl, _⟩ <;> (simp at hu; subst hu; rfl)
  | .agg cs, vs, r, u, hu => by unfold D.Rep at r; exact D.RepL.one cs vs r.1 u hu
  | .nilp, _, r, u, hu => by unfold D.Rep at r; subst r; simp at hu; subst hu; rfl
  | .fn _, _, r, u, hu => by unfold D.Rep at r; subst r; simp at hu; subst hu; rfl
  | .nilf, _, r, u, hu => by unfold D.Rep at r; subst r; simp at hu; subst hu; rfl
  | .ifc _, _, r, u, hu => by
    unfold D.Rep at r
    obtain ⟨v, rfl, r⟩ := r
    simp at hu; subst hu
    rcases r with ⟨_, rfl⟩ | ⟨_, _, _, rfl⟩ <;> rfl
  | .anyi _, _, r, u, hu => by
    unfold D.Rep at r
    obtain ⟨v, rfl, r⟩ := r
    simp at hu; subst hu
    obtain ⟨_, rfl⟩ := r
    rfl
theorem D.RepL.one {H : Fz} : ∀ (xs : List D) (vs : List Value), D.RepL H xs vs → ∀ u ∈ vs, u.oneCell' = true
  | [], _, r, u, hu => by unfold D.RepL at r; subst r; simp at hu
  | x :: xs, vs, r, u, hu => by
    unfold D.RepL at r
    obtain ⟨a, b, rfl, h2, h3⟩ := r
    rcases List.mem_append.1 hu with h | h
    · exact D.Rep.one x a h2 u h
    · exact D.RepL.one xs b h3 u h
end
theorem D.RepL.append {H : Fz} {ys : List D} {b : List Value} (hb : D.RepL H ys b) : ∀ {xs : List D} {a : List Value}, D.RepL H xs a → D.RepL H (xs ++ ys) (a ++ b)
  | [], a, h => by unfold D.RepL at h; subst h; exact hb
  | x :: xs, a, h => by
    unfold D.RepL at h
    obtain ⟨a1, a2, rfl, h1, h2⟩ := h
    show D.RepL H (x :: (xs ++ ys)) _
    unfold D.RepL
    exact ⟨a1, a2 ++ b, by simp, h1, D.RepL.append hb h2⟩
theorem D.RepL.split {H : Fz} {ys : List D} : ∀ {xs : List D} {c : List Value}, D.RepL H (xs ++ ys) c → ∃ a b, c = a ++ b ∧ D.RepL H xs a ∧ D.RepL H ys b
  | [], c, h => ⟨[], c, rfl, by unfold D.RepL; rfl, h⟩
  | x :: xs, c, h => by
    have h : D.RepL H (x :: (xs ++ ys)) c := h
    unfold D.RepL at h
    obtain ⟨a1, a2, rfl, h1, h2⟩ := h
    obtain ⟨b1, b2, rfl, h3, h4⟩ := D.RepL.split h2
    exact ⟨a1 ++ b1, b2, by simp, by unfold D.RepL; exact ⟨a1, b1, rfl, h1, h3⟩, h4⟩
theorem D.widthL_const {sz : Nat} : ∀ {xs : List D}, (∀ x ∈ xs, x.width = sz) → D.widthL xs = xs.length * sz
  | [], _ => by simp [D.widthL]
  | x :: xs, h => by
    unfold D.widthL
    rw [h x (by simp), D.widthL_const (fun y hy => h y (by simp [hy])), List.length_cons, Nat.add_mul]
    omega
/-- The cells of one element. -/
theorem D.RepL.at {H : Fz} {sz : Nat} {xs : List D} {c : List Value} (h : D.RepL H xs c) (hw : ∀ x ∈ xs, x.width = sz) {i : Nat} {x : D} (hx : xs[i]? = some x) :
    ∃ a, D.Rep H x a ∧ a.length = sz ∧ ∀ j u, a[j]? = some u → c[i * sz + j]? = some u := by
  have hl : i < xs.length := (List.getElem?_eq_some_iff.1 hx).1
  have hsplit : xs = xs.take i ++ x :: xs.drop (i + 1) := by
    have h2 : xs[i] = x := (List.getElem?_eq_some_iff.1 hx).2
    have h3 := List.drop_eq_getElem_cons hl
    rw [h2] at h3
    rw [← h3, List.take_append_drop]
  rw [hsplit] at h
  obtain ⟨a, b, rfl, h1, h2⟩ := D.RepL.split h
  unfold D.RepL at h2
  obtain ⟨b1, b2, rfl, h3, h4⟩ := h2
  refine ⟨b1, h3, (D.Rep.len x b1 h3).trans (hw x (List.mem_of_getElem? hx)), fun j u hj => ?_⟩
  have ha : a.length = i * sz := by
    rw [D.RepL.len _ _ h1, D.widthL_const (sz := sz) (fun y hy => hw y (List.mem_of_mem_take hy)), List.length_take, Nat.min_eq_left (Nat.le_of_lt hl)]
  have hj' : j < b1.length := (List.getElem?_eq_some_iff.1 hj).1
  rw [List.getElem?_append_right (by omega), ha, Nat.add_sub_cancel_left, List.getElem?_append_left hj']
  exact hj
theorem D.cells_Rep {H : Fz} {x : D} {vs : List Value} (h : x.Rep H vs) : D.RepL H x.cells vs ∧ ∀ c ∈ x.cells, c.isAgg = false := by
  cases x <;> first
    | (unfold D.Rep at h; exact h)
    | exact ⟨by unfold D.cells D.RepL; exact ⟨vs, [], by simp, h, by unfold D.RepL; rfl⟩, by intro c hc; simp [D.cells] at hc; subst hc; rfl⟩

/-- A value that is data. -/
def D.RepV (H : Fz) (x : D) (v : Value) : Prop :=
  match x with
  | .agg cs => ∃ arr, v = .agg arr ∧ D.Rep H (.agg cs) arr.toList
  | x => D.Rep H x [v]
theorem D.RepV.le {H H' : Fz} (h : H.le H') {x : D} {v : Value} (r : x.RepV H v) : x.RepV H' v := by
  cases x <;> first
    | (obtain ⟨arr, h1, h2⟩ := r; exact ⟨arr, h1, D.Rep.le h _ _ h2⟩)
    | exact D.Rep.le h _ _ r
theorem D.RepV.cells {H : Fz} {x : D} {v : Value} (r : x.RepV H v) : D.RepL H x.cells v.cells.toList ∧ (∀ c ∈ x.cells, c.isAgg = false) ∧ D.Rep H x v.cells.toList := by
  cases x with
  | agg cs =>
    obtain ⟨arr, rfl, h2⟩ := r
    exact ⟨(D.cells_Rep h2).1, (D.cells_Rep h2).2, h2⟩
  | _ =>
    have h1 : v.cells.toList = [v] := by
      have := r
      simp only [D.RepV] at this
      unfold D.Rep at this
      first
        | (simp at this; subst this; rfl)
        | (obtain ⟨u, h, ⟨_, rfl⟩ | ⟨_, _, _, rfl⟩⟩ := this <;> (simp at h; subst h; rfl))
        | (obtain ⟨u, h, ⟨_, rfl⟩⟩ := this; simp at h; subst h; rfl)
        | (rcases this with ⟨_, _, _, h⟩ | ⟨_, _, _, _, _, h, _⟩ <;> (simp at h; subst h; rfl))
    rw [h1]
    exact ⟨(D.cells_Rep r).1, (D.cells_Rep r).2, r⟩

/-! ### Values in slots -/
abbrev Vl := Tok → Option Value
def Vl.le (L L' : Vl) : Prop := ∀ t v, L t = some v → L' t = some v
theorem Vl.le_refl (L : Vl) : L.le L := fun _ _ h => h
theorem Vl.le_trans {L L' L'' : Vl} (h : L.le L') (h' : L'.le L'') : L.le L'' := fun t v x => h' t v (h t v x)

mutual
def Val.Rep (H : Fz) (L : Vl) : Val → Value → Prop
  | .dead, _ => True
  | .und, v => v = undef
  | .cell, v => v.oneCell' = true
  | .d x, v => x.RepV H v
  | .ref t none, v => L t = some v ∧ ∃ A n c, v = .slice A n c
  | .ref t (some h), v => ∃ A n c, L t = some (.slice A n c) ∧ v = .slice A h c ∧ h ≤ n
  | .ptr t off, v => ∃ b, L t = some (.pointer (some ⟨b, 0, none⟩)) ∧ v = .pointer (some ⟨b, off, none⟩)
  | .eptr t sz i off, v => ∃ b n c, L t = some (.slice (some ⟨b, 0, none⟩) n c) ∧ v = .pointer (some ⟨b, i * sz + off, none⟩)
  | .tail t sz i, v => ∃ A0 n c A, L t = some (.slice A0 n c) ∧ i ≤ n ∧ v = .slice A (n - i) (c - i) ∧ (i < n → ∃ b, A0 = some ⟨b, 0, none⟩ ∧ A = some ⟨b, i * sz, none⟩)
  | .dptr xs, v => ∃ a cs, v = .pointer (some a) ∧ D.RepL H xs cs ∧ Lies H a cs ∧ ∀ c ∈ xs, c.isAgg = false
  | .fn f caps, v => ∃ arr, v = .func (.func f) #[] arr ∧ Val.RepL H L caps arr.toList
  | .agg cs, v => ∃ arr, v = .agg arr ∧ Val.RepL H L cs arr.toList ∧ ∀ c ∈ cs, c.isCell = true
  | .tup vs, v => ∃ arr, v = .tuple arr ∧ Val.RepL H L vs arr.toList
def Val.RepL (H : Fz) (L : Vl) : List Val → List Value → Prop
  | [], vs => vs = []
  | x :: xs, vs => ∃ v r, vs = v :: r ∧ Val.Rep H L x v ∧ Val.RepL H L xs r
end

mutual
theorem Val.Rep.le {H H' : Fz} {L L' : Vl} (h : H.le H') (hl : L.le L') : ∀ (x : Val) (v : Value), x.Rep H L v → x.Rep H' L' v
  | .dead, _, r => r
  | .und, _, r => r
  | .cell, _, r => by unfold Val.Rep at *; exact r
  | .d x, v, r => by unfold Val.Rep at *; exact D.RepV.le h r
  | .ref t none, v, r => by unfold Val.Rep at *; exact ⟨hl _ _ r.1, r.2⟩
  | .ref t (some n), v, r => by
    unfold Val.Rep at *
    obtain ⟨A, n, c, h1, h2⟩ := r
    exact ⟨A, n, c, hl _ _ h1, h2⟩
  | .ptr t off, v, r => by
    unfold Val.Rep at *
    obtain ⟨b, h1, h2⟩ := r
    exact ⟨b, hl _ _ h1, h2⟩
  | .eptr t sz i off, v, r => by
    unfold Val.Rep at *
    obtain ⟨b, n, c, h1, h2⟩ := r
    exact ⟨b, n, c, hl _ _ h1, h2⟩
  | .tail t sz i, v, r => by
    unfold Val.Rep at *
    obtain ⟨A0, n, c, A, h1, h2⟩ := r
    exact ⟨A0, n, c, A, hl _ _ h1, h2⟩
  | .dptr xs, v, r => by
    unfold Val.Rep at *
    obtain ⟨a, cs, h1, h2, h3, h4⟩ := r
    exact ⟨a, cs, h1, D.RepL.le h _ _ h2, h3.le h, h4⟩
  | .fn f caps, v, r => by
    unfold Val.Rep at *
    obtain ⟨arr, h1, h2⟩ := r
    exact ⟨arr, h1, Val.RepL.le h hl caps _ h2⟩
  | .agg cs, v, r => by
    unfold Val.Rep at *
    obtain ⟨arr, h1, h2, h3⟩ := r
    exact ⟨arr, h1, Val.RepL.le h hl cs _ h2, h3⟩
  | .tup vs, v, r => by
    unfold Val.Rep at *
    obtain ⟨arr, h1, h2⟩ := r
    exact ⟨arr, h1, Val.RepL.le h hl vs _ h2⟩
theorem Val.RepL.le {H H' : Fz} {L L' : Vl} (h : H.le H') (hl : L.le L') : ∀ (xs : List Val) (vs : List Value), Val.RepL H L xs vs → Val.RepL H' L' xs vs
  | [], _, r => r
  | x :: xs, vs, r => by
    unfold Val.RepL at *
    obtain ⟨v, r, h1, h2, h3⟩ := r
    exact ⟨v, r, h1, Val.Rep.le h hl x v h2, Val.RepL.le h hl xs r h3⟩
end
theorem Val.RepL.len {H : Fz} {L : Vl} : ∀ {xs : List Val} {vs : List Value}, Val.RepL H L xs vs → vs.length = xs.length
  | [], _, r => by unfold Val.RepL at r; subst r; rfl
  | x :: xs, vs, r => by
    unfold Val.RepL at r
    obtain ⟨v, r, rfl, _, h⟩ := r
    simp [Val.RepL.len h]
theorem Val.RepL.get {H : Fz} {L : Vl} : ∀ {xs : List Val} {vs : List Value}, Val.RepL H L xs vs → ∀ {i : Nat} {x : Val}, xs[i]? = some x → ∃ v, vs[i]? = some v ∧ x.Rep H L v
  | [], _, _, i, x, hx => by simp at hx
  | y :: ys, vs, r, i, x, hx => by
    unfold Val.RepL at r
    obtain ⟨v, r, rfl, h1, h⟩ := r
    cases i with
    | zero => simp at hx; subst hx; exact ⟨v, rfl, h1⟩
    | succ i => simp at hx ⊢; exact Val.RepL.get h hx
theorem Val.RepL.append {H : Fz} {L : Vl} {ys : List Val} {b : List Value} (hb : Val.RepL H L ys b) : ∀ {xs : List Val} {a : List Value}, Val.RepL H L xs a → Val.RepL H L (xs ++ ys) (a ++ b)
  | [], a, h => by unfold Val.RepL at h; subst h; exact hb
  | x :: xs, a, h => by
    unfold Val.RepL at h
    obtain ⟨v, r, rfl, h1, h2⟩ := h
    show Val.RepL H L (x :: (xs ++ ys)) _
    unfold Val.RepL
    exact ⟨v, r ++ b, by simp, h1, Val.RepL.append hb h2⟩
theorem Val.RepL.take {H : Fz} {L : Vl} : ∀ {xs : List Val} {vs : List Value} (n : Nat), Val.RepL H L xs vs → Val.RepL H L (xs.take n) (vs.take n)
  | [], _, n, r => by unfold Val.RepL at r; subst r; simp [Val.RepL]
  | x :: xs, vs, 0, r => by simp [Val.RepL]
  | x :: xs, vs, n + 1, r => by
    unfold Val.RepL at r
    obtain ⟨v, r, rfl, h1, h2⟩ := r
    simp only [List.take_succ_cons]
    unfold Val.RepL
    exact ⟨v, _, rfl, h1, Val.RepL.take n h2⟩
theorem Val.RepL.drop {H : Fz} {L : Vl} : ∀ {xs : List Val} {vs : List Value} (n : Nat), Val.RepL H L xs vs → Val.RepL H L (xs.drop n) (vs.drop n)
  | [], _, n, r => by unfold Val.RepL at r; subst r; simp [Val.RepL]
  | x :: xs, vs, 0, r => r
  | x :: xs, vs, n + 1, r => by
    unfold Val.RepL at r
    obtain ⟨v, r, rfl, h1, h2⟩ := r
    simp only [List.drop_succ_cons]
    exact Val.RepL.drop n h2
/-- Data cells as values of slots. -/
theorem D.RepL.vals {H : Fz} {L : Vl} : ∀ {xs : List D} {vs : List Value}, D.RepL H xs vs → (∀ c ∈ xs, c.isAgg = false) → Val.RepL H L (xs.map .d) vs
  | [], vs, h, _ => by unfold D.RepL at h; subst h; simp [Val.RepL]
  | x :: xs, vs, h, ho => by
    unfold D.RepL at h
    obtain ⟨a, b, rfl, h1, h2⟩ := h
    have hx := ho x (by simp)
    have hl := D.Rep.len x a h1
    have h1' : a.length = 1 := by rw [hl]; cases x <;> first | rfl | simp [D.isAgg] at hx
    obtain ⟨v, rfl⟩ : ∃ v, a = [v] := by
      match a, h1' with
      | [v], _ => exact ⟨v, rfl⟩
    simp only [List.map_cons]
    unfold Val.RepL
    refine ⟨v, b, rfl, ?_, D.RepL.vals h2 (fun c hc => ho c (by simp [hc]))⟩
    unfold Val.Rep
    cases x <;> first | (simp [D.isAgg] at hx; done) | exact h1
theorem Val.RepL.data {H : Fz} {L : Vl} : ∀ {xs : List D} {vs : List Value}, Val.RepL H L (xs.map .d) vs → (∀ c ∈ xs, c.isAgg = false) → D.RepL H xs vs
  | [], vs, h, _ => by simp [Val.RepL] at h; subst h; unfold D.RepL; rfl
  | x :: xs, vs, h, ho => by
    simp only [List.map_cons] at h
    unfold Val.RepL at h
    obtain ⟨v, r, rfl, h1, h2⟩ := h
    unfold D.RepL
    refine ⟨[v], r, rfl, ?_, Val.RepL.data h2 (fun c hc => ho c (by simp [hc]))⟩
    have hx := ho x (by simp)
    unfold Val.Rep at h1
    cases x <;> first | (simp [D.isAgg] at hx; done) | exact h1
theorem allD_some : ∀ {vs : List Val} {xs : List D}, allD vs = some xs → vs = xs.map .d
  | [], xs, h => by simp [allD] at h; subst h; rfl
  | v :: vs, xs, h => by
    cases v <;> simp only [allD] at h <;> first
      | (cases h; done)
      | (obtain ⟨ys, h1, rfl⟩ := Option.map_eq_some_iff.1 h
         rw [allD_some h1]; rfl)
theorem Val.isCell_one {H : Fz} {L : Vl} {x : Val} {v : Value} (h : x.Rep H L v) (hc : x.isCell = true) : v.oneCell' = true ∧ v.cells.toList = [v] := by
  cases x <;> simp [Val.isCell] at hc
  case d x =>
    unfold Val.Rep at h
    have h1 : D.Rep H x [v] := by cases x <;> first | (simp [D.isAgg] at hc; done) | exact h
    have h2 := D.Rep.one x [v] h1 v (by simp)
    refine ⟨h2, ?_⟩
    cases v <;> first | rfl | simp [Value.oneCell'] at h2
  case ref t l =>
    cases l with
    | none =>
      unfold Val.Rep at h
      obtain ⟨_, _, _, _, rfl⟩ := h
      exact ⟨rfl, rfl⟩
    | some n =>
      unfold Val.Rep at h
      obtain ⟨_, _, _, _, rfl, _⟩ := h
      exact ⟨rfl, rfl⟩
  case ptr t o => unfold Val.Rep at h; obtain ⟨_, _, rfl⟩ := h; exact ⟨rfl, rfl⟩
  case cell =>
    unfold Val.Rep at h
    refine ⟨h, ?_⟩
    cases v <;> first | rfl | simp [Value.oneCell'] at h
  case fn f cs => unfold Val.Rep at h; obtain ⟨_, rfl, _⟩ := h; exact ⟨rfl, rfl⟩
end Go.Ab

/- The state of a run within a region, as the plain evaluator tells it. No condition. -/
set_option linter.unusedVariables false
set_option linter.unusedSimpArgs false
namespace Go.Ab
open Go

structure Cx where
  P : Program
  T : Tab
  w0 : World
  own0 : List Nat
  H0 : Fz
  N : Nat
  lk : List (Nat × Value)

/-- A block that the call may write. -/
def Cx.Mine (X : Cx) (b : Nat) : Prop := X.w0.heap.size ≤ b ∨ b ∈ X.own0
/-- All other blocks are as they were. -/
structure Framed (w0 : World) (own0 : List Nat) (w : World) : Prop where
  os : w.os = w0.os
  tape : w.tape = w0.tape
  output : w.output = w0.output
  size : w0.heap.size ≤ w.heap.size
  block : ∀ k, k < w0.heap.size → k ∉ own0 → w.heap[k]? = w0.heap[k]?

/-- The block that may be written through a token. -/
def mutBlk (e : Ent) (v : Option Value) : Option Nat :=
  match e, v with
  | .row true _ _ _ _, some (.slice (some a) _ _) => some a.block
  | .box _ _, some (.pointer (some a)) => some a.block
  | .dbox _ _, some (.pointer (some a)) => some a.block
  | _, _ => none

def EntInv (X : Cx) (H : Fz) (L : Vl) (w : World) (t : Tok) : Ent → Prop
  | .fresh => L t = none
  | .gone => True
  | .row m nl e sz xs => ∃ v cells, L t = some v ∧ w.ownsRow 0 e sz v xs.length cells ∧ D.RepL H xs cells ∧ (∀ x ∈ xs, x.width = sz) ∧ (nl = true ↔ v = .slice none 0 0) ∧
      ∀ b, v.ownBlock = some b → if m = true then H b = none ∧ X.Mine b else H b = w.heap[b]?
  | .box ty cells => ∃ b cur, L t = some (.pointer (some ⟨b, 0, none⟩)) ∧ w.heap[b]? = some (.cells cur ty (0, 0)) ∧ Val.RepL H L cells cur.toList ∧ (∀ c ∈ cells, c.isCell = true) ∧ H b = none ∧ X.Mine b
  | .dbox ty cells => ∃ b cur, L t = some (.pointer (some ⟨b, 0, none⟩)) ∧ w.heap[b]? = some (.cells cur ty (0, 0)) ∧ D.RepL H cells cur.toList ∧ (∀ c ∈ cells, c.isAgg = false) ∧ H b = none ∧ X.Mine b

structure Rel (X : Cx) (H : Fz) (L : Vl) (σ : St) (a : Act) (w : World) : Prop where
  le : X.H0.le H
  sub : H.sub w
  fr : Framed X.w0 X.own0 w
  defers : a.defers = []
  size : a.tmps.size = X.N
  env : ∀ i, (σ.getS i).Rep H L (a.tmps.getD i undef)
  ents : ∀ t, EntInv X H L w t (σ.getT t)
  apart : ∀ t t' b, t ≠ t' → mutBlk (σ.getT t) (L t) = some b → mutBlk (σ.getT t') (L t') ≠ some b
  lk : ∀ i v, (i, v) ∈ X.lk → a.tmps.getD i undef = v
  fz : ∀ k, ¬ X.Mine k → H k = X.H0 k

theorem assoc_aput {α β : Type} [DecidableEq α] (z : β) (l : List (α × β)) (i j : α) (v : β) : assoc z (aput l i v) j = if i = j then v else assoc z l j := by
  induction l with
  | nil => simp [aput, assoc]
  | cons p r ih =>
    obtain ⟨k, u⟩ := p
    unfold aput
    by_cases h : k = i
    · subst h
      simp only [if_true]
      unfold assoc
      by_cases h2 : k = j <;> simp [h2]
    · rw [if_neg h]
      unfold assoc
      by_cases h2 : k = j
      · subst h2
        simp [Ne.symm h]
      · rw [if_neg h2, ih, if_neg h2]
theorem St.getS_putS (σ : St) (i j : Nat) (v : Val) : (σ.putS i v).getS j = if i = j then v else σ.getS j := assoc_aput _ _ _ _ _
theorem St.getT_putT (σ : St) (t u : Tok) (e : Ent) : (σ.putT t e).getT u = if t = u then e else σ.getT u := assoc_aput _ _ _ _ _

section
variable {X : Cx} {H : Fz} {L : Vl} {σ : St} {a : Act} {w : World}

theorem getD_put (a : Act) (d i : Nat) (v : Value) : (a.put (some d) v).tmps.getD i undef = if d = i ∧ d < a.tmps.size then v else a.tmps.getD i undef := by
  simp only [Act.put, Array.getD_eq_getD_getElem?]
  by_cases h : d = i
  · subst h
    by_cases h2 : d < a.tmps.size
    · simp [h2]
    · simp [h2, Array.getElem?_eq_none (Nat.le_of_not_lt h2)]
  · rw [Array.getElem?_setIfInBounds_ne h]
    simp [h]

/-- A value comes into a slot. -/
theorem Rel.put (r : Rel X H L σ a w) {d : Nat} {x : Val} {v : Value} (hd : d < X.N) (hl : ∀ u, (d, u) ∉ X.lk) (hx : x.Rep H L v) : Rel X H L (σ.putS d x) (a.put (some d) v) w where
  le := r.le
  sub := r.sub
  fr := r.fr
  defers := r.defers
  size := by simp [Act.put, r.size]
  env := fun i => by
    rw [St.getS_putS, getD_put, r.size]
    by_cases h : d = i
    · subst h; simp [hd]; exact hx
    · rw [if_neg h, if_neg (fun x => h x.1)]; exact r.env i
  ents := r.ents
  apart := r.apart
  lk := fun i u hu => by
    rw [getD_put]
    by_cases h : d = i
    · subst h; exact absurd hu (hl u)
    · rw [if_neg (fun x => h x.1)]; exact r.lk i u hu
  fz := r.fz
theorem Framed.refl (w : World) (o : List Nat) : Framed w o w := ⟨rfl, rfl, rfl, Nat.le_refl _, fun _ _ _ => rfl⟩
theorem Framed.alloc {w0 w : World} {o : List Nat} (h : Framed w0 o w) (ob : Obj) : Framed w0 o (w.alloc ob) :=
  ⟨h.os, h.tape, h.output, by simp; have := h.size; omega, fun k hk hn => (heap_alloc_old w ob k (Nat.lt_of_lt_of_le hk h.size)).trans (h.block k hk hn)⟩
theorem Framed.grown {w0 w w1 : World} {o : List Nat} (h : Framed w0 o w) {row : Option Nat} (hg : w.grownBy w1 row) (hr : ∀ b, row = some b → w0.heap.size ≤ b ∨ b ∈ o) : Framed w0 o w1 :=
  ⟨hg.os.trans h.os, hg.tape.trans h.tape, hg.output.trans h.output, Nat.le_trans h.size hg.size, fun k hk hn => by
    refine (hg.block k (Nat.lt_of_lt_of_le hk h.size) ?_).trans (h.block k hk hn)
    intro e
    rcases hr k e.symm with h1 | h1
    · omega
    · exact hn h1⟩
theorem Fz.sub_grown {H : Fz} {w w1 : World} (h : H.sub w) {row : Option Nat} (hg : w.grownBy w1 row) (hr : ∀ b, row = some b → H b = none) : H.sub w1 := fun k o hk => by
  have h1 := h k o hk
  refine (hg.block k (Array.getElem?_eq_some_iff.1 h1).1 ?_).trans h1
  intro e
  rw [hr k e.symm] at hk
  cases hk
theorem Fz.none_new {H : Fz} {w : World} (h : H.sub w) {k : Nat} (hk : w.heap.size ≤ k) : H k = none := by
  cases hb : H k with
  | none => rfl
  | some o =>
    have := (Array.getElem?_eq_some_iff.1 (h k o hb)).1
    omega

theorem ownsRow_old {w w1 : World} {e : TypeId} {sz n : Nat} {v : Value} {xs : List Value} (h : w.ownsRow 0 e sz v n xs) (hb : ∀ b, v.ownBlock = some b → w1.heap[b]? = w.heap[b]?) : w1.ownsRow 0 e sz v n xs := by
  refine ⟨h.1, ?_⟩
  rcases h.2 with h1 | ⟨g, cap, cur, rfl, h0, h2, h3⟩
  · exact .inl h1
  · exact .inr ⟨g, cap, cur, rfl, h0, (hb g rfl).trans h2, h3⟩
theorem ownsRow_lt {w : World} {e : TypeId} {sz n : Nat} {v : Value} {xs : List Value} (h : w.ownsRow 0 e sz v n xs) {b : Nat} (hb : v.ownBlock = some b) : b < w.heap.size := by
  rcases h.2 with ⟨rfl, _⟩ | ⟨g, cap, cur, rfl, h0, h2, h3⟩
  · simp [Value.ownBlock] at hb
  · simp [Value.ownBlock] at hb; subst hb; exact (Array.getElem?_eq_some_iff.1 h2).1

/-- What stands at a token stays so in a world in which its block is as it was. -/
theorem EntInv.keep {t : Tok} {e : Ent} {w1 : World} {L' : Vl} {H' : Fz} (h : EntInv X H L w t e) (hL : L.le L') (hf : e = .fresh → L' t = none) (hH : H.le H') (hs' : H'.sub w1)
    (hb : ∀ b, mutBlk e (L t) = some b → w1.heap[b]? = w.heap[b]? ∧ H' b = none) (hs : H.sub w) (hs1 : H.sub w1) : EntInv X H' L' w1 t e := by
  cases e with
  | fresh => exact hf rfl
  | gone => trivial
  | row m nl ty sz xs =>
    obtain ⟨v, cells, h1, h2, h3, h4, h5, h6⟩ := h
    refine ⟨v, cells, hL _ _ h1, ?_, D.RepL.le hH _ _ h3, h4, h5, ?_⟩
    · refine ownsRow_old h2 fun b hv => ?_
      have h7 := h6 b hv
      by_cases hm : m = true
      · subst hm
        refine (hb b ?_).1
        rw [h1]
        cases v <;> simp [Value.ownBlock] at hv
        rename_i A n c
        cases A <;> simp at hv
        simp [mutBlk, hv]
      · simp only [hm] at h7
        have hlt := ownsRow_lt h2 hv
        have h8 : H b = some w.heap[b] := h7.trans (Array.getElem?_eq_getElem hlt)
        rw [hs1 _ _ h8]
        exact (Array.getElem?_eq_getElem hlt).symm
    · intro b hv
      have h7 := h6 b hv
      by_cases hm : m = true
      · subst hm
        simp only [if_true] at h7 ⊢
        refine ⟨(hb b ?_).2, h7.2⟩
        rw [h1]
        cases v <;> simp [Value.ownBlock] at hv
        rename_i A n c
        cases A <;> simp at hv
        simp [mutBlk, hv]
      · simp only [hm] at h7 ⊢
        have hlt := ownsRow_lt h2 hv
        have h8 : H b = some w.heap[b] := h7.trans (Array.getElem?_eq_getElem hlt)
        have h9 := hH _ _ h8
        exact h9.trans (hs' _ _ h9).symm
  | box ty cells =>
    obtain ⟨b, cur, h1, h2, h3, h4, h5, h6⟩ := h
    have h7 := hb b (by simp [mutBlk, h1])
    exact ⟨b, cur, hL _ _ h1, h7.1.trans h2, Val.RepL.le hH hL _ _ h3, h4, h7.2, h6⟩
  | dbox ty cells =>
    obtain ⟨b, cur, h1, h2, h3, h4, h5, h6⟩ := h
    have h7 := hb b (by simp [mutBlk, h1])
    exact ⟨b, cur, hL _ _ h1, h7.1.trans h2, D.RepL.le hH _ _ h3, h4, h7.2, h6⟩
theorem EntInv.lt {t : Tok} {e : Ent} (h : EntInv X H L w t e) {b : Nat} (hb : mutBlk e (L t) = some b) : b < w.heap.size ∧ H b = none ∧ X.Mine b := by
  cases e with
  | fresh => simp [mutBlk] at hb
  | gone => simp [mutBlk] at hb
  | row m nl ty sz xs =>
    obtain ⟨v, cells, h1, h2, h3, h4, h5, h6⟩ := h
    rw [h1] at hb
    cases m with
    | false => simp [mutBlk] at hb
    | true =>
    cases v <;> simp [mutBlk] at hb
    rename_i A n c
    cases A <;> simp [mutBlk] at hb
    have h7 := h6 b (by simp [Value.ownBlock, hb])
    simp only [if_true] at h7
    exact ⟨ownsRow_lt h2 (by simp [Value.ownBlock, hb]), h7⟩
  | box ty cells =>
    obtain ⟨b', cur, h1, h2, h3, h4, h5, h6⟩ := h
    simp [mutBlk, h1] at hb
    subst hb
    exact ⟨(Array.getElem?_eq_some_iff.1 h2).1, h5, h6⟩
  | dbox ty cells =>
    obtain ⟨b', cur, h1, h2, h3, h4, h5, h6⟩ := h
    simp [mutBlk, h1] at hb
    subst hb
    exact ⟨(Array.getElem?_eq_some_iff.1 h2).1, h5, h6⟩
end
end Go.Ab

/- How the state of a run moves: new memory, memory that is written, memory that is never written again. No condition. -/
set_option linter.unusedVariables false
set_option linter.unusedSimpArgs false
namespace Go.Ab
open Go

def Vl.upd (L : Vl) (t : Tok) (v : Value) : Vl := fun u => if t = u then some v else L u
theorem Vl.le_upd {L : Vl} {t : Tok} (h : L t = none) (v : Value) : L.le (L.upd t v) := fun u x hx => by
  unfold Vl.upd
  by_cases e : t = u
  · subst e; rw [h] at hx; cases hx
  · rw [if_neg e]; exact hx
def Fz.upd (H : Fz) (b : Nat) (o : Obj) : Fz := fun k => if b = k then some o else H k
theorem Fz.le_upd {H : Fz} {b : Nat} (h : H b = none) (o : Obj) : H.le (H.upd b o) := fun u x hx => by
  unfold Fz.upd
  by_cases e : b = u
  · subst e; rw [h] at hx; cases hx
  · rw [if_neg e]; exact hx

section
variable {X : Cx} {H : Fz} {L : Vl} {σ : St} {a : Act} {w : World}

/-- The general move: the entries at some tokens change, a token comes, blocks that nobody else may write are written. -/
theorem Rel.move (r : Rel X H L σ a w) {σ' : St} {w1 : World} {L' : Vl} {H' : Fz} (henv : ∀ i, σ'.getS i = σ.getS i) (hL : L.le L') (hH : H.le H') (hs : H'.sub w1) (hfr : Framed X.w0 X.own0 w1) (hs1 : H.sub w1)
    (S : Tok → Prop) (hsame : ∀ t, ¬ S t → σ'.getT t = σ.getT t ∧ L' t = L t)
    (hblk : ∀ t b, ¬ S t → mutBlk (σ.getT t) (L t) = some b → w1.heap[b]? = w.heap[b]? ∧ H' b = none)
    (hnew : ∀ t, S t → EntInv X H' L' w1 t (σ'.getT t))
    (hap : ∀ t t' b, S t → t ≠ t' → mutBlk (σ'.getT t) (L' t) = some b → mutBlk (σ'.getT t') (L' t') ≠ some b) (hfz : ∀ k, ¬ X.Mine k → H' k = H k := by intros; rfl) : Rel X H' L' σ' a w1 where
  fz := fun k hk => (hfz k hk).trans (r.fz k hk)
  le := Fz.le_trans r.le hH
  sub := hs
  fr := hfr
  defers := r.defers
  size := r.size
  env := fun i => by rw [henv]; exact Val.Rep.le hH hL _ _ (r.env i)
  ents := fun t => by
    by_cases h : S t
    · exact hnew t h
    · have h1 := hsame t h
      rw [h1.1]
      refine (r.ents t).keep hL (fun he => ?_) hH hs (fun b hb => hblk t b h hb) r.sub hs1
      have := r.ents t
      rw [he] at this
      rw [h1.2]; exact this
  apart := fun t t' b hne hb hb' => by
    by_cases h : S t
    · exact hap t t' b h hne hb hb'
    · by_cases h' : S t'
      · exact hap t' t b h' (Ne.symm hne) hb' hb
      · have h1 := hsame t h
        have h2 := hsame t' h'
        rw [h1.1, h1.2] at hb
        rw [h2.1, h2.2] at hb'
        exact r.apart t t' b hne hb hb'
  lk := r.lk

/-- New memory. -/
theorem Rel.make (r : Rel X H L σ a w) {t : Tok} (hf : σ.getT t = .fresh) {w1 : World} {v : Value} {e : Ent} (hw : ∀ k, k < w.heap.size → w1.heap[k]? = w.heap[k]?) (hfr : Framed X.w0 X.own0 w1)
    (he : EntInv X H (L.upd t v) w1 t e) (hm : ∀ b, mutBlk e (some v) = some b → w.heap.size ≤ b) : Rel X H (L.upd t v) (σ.putT t e) a w1 := by
  have hLt : L t = none := by have := r.ents t; rw [hf] at this; exact this
  have hs1 : H.sub w1 := fun k o hk => by
    have h1 := r.sub k o hk
    exact (hw k (Array.getElem?_eq_some_iff.1 h1).1).trans h1
  refine r.move (fun i => rfl) (Vl.le_upd hLt v) (Fz.le_refl H) hs1 hfr hs1 (fun u => t = u) (fun u hu => ?_) (fun u b hu hb => ?_) (fun u hu => ?_) (fun u u' b hu hne hb hb' => ?_)
  · exact ⟨by rw [St.getT_putT, if_neg hu], by unfold Vl.upd; rw [if_neg hu]⟩
  · have := (r.ents u).lt hb
    exact ⟨hw b this.1, this.2.1⟩
  · subst hu
    rw [St.getT_putT, if_pos rfl]
    exact he
  · subst hu
    rw [St.getT_putT, if_pos rfl] at hb
    have h1 := hm b (by simpa [Vl.upd] using hb)
    rw [St.getT_putT, if_neg hne] at hb'
    have h3 : (L.upd t v) u' = L u' := by unfold Vl.upd; rw [if_neg hne]
    rw [h3] at hb'
    have := ((r.ents u').lt hb').1
    omega

/-- A row is written, or moves: its old token is gone, a new one comes. -/
theorem Rel.turn (r : Rel X H L σ a w) {t0 t : Tok} (hf : σ.getT t = .fresh) {nl : Bool} {e0 : TypeId} {sz0 : Nat} {xs0 : List D} {v0 : Value} (h0 : σ.getT t0 = .row true nl e0 sz0 xs0) (hv0 : L t0 = some v0)
    {w1 : World} {v : Value} {e : Ent} (hg : w.grownBy w1 v0.ownBlock)
    (he : EntInv X H (L.upd t v) w1 t e) (hm : ∀ b, mutBlk e (some v) = some b → v0.ownBlock = some b ∨ w.heap.size ≤ b) : Rel X H (L.upd t v) ((σ.putT t0 .gone).putT t e) a w1 := by
  have hLt : L t = none := by have := r.ents t; rw [hf] at this; exact this
  have hne0 : t0 ≠ t := fun h => by subst h; rw [h0] at hf; cases hf
  have hb0 : ∀ b, v0.ownBlock = some b → mutBlk (σ.getT t0) (L t0) = some b := fun b hb => by
    rw [h0, hv0]
    cases v0 <;> simp [Value.ownBlock] at hb
    rename_i A n c
    cases A <;> simp at hb
    simp [mutBlk, hb]
  have hmine : ∀ b, v0.ownBlock = some b → b < w.heap.size ∧ H b = none ∧ X.Mine b := fun b hb => (r.ents t0).lt (hb0 b hb)
  have hs1 : H.sub w1 := Fz.sub_grown r.sub hg (fun b hb => (hmine b hb).2.1)
  refine r.move (fun i => rfl) (Vl.le_upd hLt v) (Fz.le_refl H) hs1 (r.fr.grown hg (fun b hb => (hmine b hb).2.2)) hs1 (fun u => t = u ∨ t0 = u) (fun u hu => ?_) (fun u b hu hb => ?_) (fun u hu => ?_) (fun u u' b hu hne hb hb' => ?_)
  · have h1 : t ≠ u := fun h => hu (.inl h)
    have h2 : t0 ≠ u := fun h => hu (.inr h)
    exact ⟨by rw [St.getT_putT, if_neg h1, St.getT_putT, if_neg h2], by unfold Vl.upd; rw [if_neg h1]⟩
  · have h2 : t0 ≠ u := fun h => hu (.inr h)
    have h3 := (r.ents u).lt hb
    refine ⟨hg.block b h3.1 (fun h => ?_), h3.2.1⟩
    exact r.apart t0 u b h2 (hb0 b h.symm) hb
  · rcases hu with rfl | rfl
    · rw [St.getT_putT, if_pos rfl]; exact he
    · rw [St.getT_putT, if_neg (Ne.symm hne0), St.getT_putT, if_pos rfl]; trivial
  · rcases hu with rfl | rfl
    · rw [St.getT_putT, if_pos rfl] at hb
      have h1 := hm b (by simpa [Vl.upd] using hb)
      rw [St.getT_putT, if_neg hne] at hb'
      have h3 : (L.upd t v) u' = L u' := by unfold Vl.upd; rw [if_neg hne]
      rw [h3] at hb'
      rw [St.getT_putT] at hb'
      by_cases h4 : t0 = u'
      · rw [if_pos h4] at hb'; simp [mutBlk] at hb'
      · rw [if_neg h4] at hb'
        rcases h1 with h1 | h1
        · exact r.apart t0 u' b h4 (hb0 b h1) hb'
        · have := ((r.ents u').lt hb').1
          omega
    · rw [St.getT_putT, if_neg (Ne.symm hne0), St.getT_putT, if_pos rfl] at hb
      simp [mutBlk] at hb

/-- What stands at a token is written in place. -/
theorem Rel.write (r : Rel X H L σ a w) {t : Tok} {e : Ent} {b0 : Nat} (hb0 : mutBlk (σ.getT t) (L t) = some b0) {w1 : World} (hg : w.grownBy w1 (some b0))
    (he : EntInv X H L w1 t e) (hm : mutBlk e (L t) = some b0) : Rel X H L (σ.putT t e) a w1 := by
  have hmine := (r.ents t).lt hb0
  have hs1 : H.sub w1 := Fz.sub_grown r.sub hg (fun b hb => by cases hb; exact hmine.2.1)
  refine r.move (fun i => rfl) (Vl.le_refl L) (Fz.le_refl H) hs1 (r.fr.grown hg (fun b hb => by cases hb; exact hmine.2.2)) hs1 (fun u => t = u) (fun u hu => ?_) (fun u b hu hb => ?_) (fun u hu => ?_) (fun u u' b hu hne hb hb' => ?_)
  · exact ⟨by rw [St.getT_putT, if_neg hu], rfl⟩
  · have h3 := (r.ents u).lt hb
    refine ⟨hg.block b h3.1 (fun h => ?_), h3.2.1⟩
    injection h with h
    rw [h] at hb
    exact r.apart t u b0 hu hb0 hb
  · subst hu
    rw [St.getT_putT, if_pos rfl]; exact he
  · subst hu
    rw [St.getT_putT, if_pos rfl, hm] at hb
    cases hb
    rw [St.getT_putT, if_neg hne] at hb'
    exact r.apart t u' b0 hne hb0 hb'

/-- A row is never written again. -/
theorem Rel.freeze (r : Rel X H L σ a w) {t : Tok} {nl : Bool} {e : TypeId} {sz : Nat} {xs : List D} (h0 : σ.getT t = .row true nl e sz xs) :
    ∃ H', H.le H' ∧ Rel X H' L (σ.putT t (.row false nl e sz xs)) a w := by
  have hent := r.ents t
  rw [h0] at hent
  obtain ⟨v, cells, h1, h2, h3, h4, h5, h6⟩ := hent
  simp only [if_true] at h6
  cases hb : v.ownBlock with
  | none =>
    refine ⟨H, Fz.le_refl H, r.move (fun i => rfl) (Vl.le_refl L) (Fz.le_refl H) r.sub r.fr r.sub (fun u => t = u) (fun u hu => ⟨by rw [St.getT_putT, if_neg hu], rfl⟩) (fun u b hu hb => ⟨rfl, ((r.ents u).lt hb).2.1⟩) (fun u hu => ?_) (fun u u1 b hu hne hb1 => ?_)⟩
    · subst hu
      rw [St.getT_putT, if_pos rfl]
      exact ⟨v, cells, h1, h2, h3, h4, h5, fun b hb' => by rw [hb] at hb'; cases hb'⟩
    · subst hu
      rw [St.getT_putT, if_pos rfl] at hb1
      simp [mutBlk] at hb1
  | some b =>
    have h7 := h6 b hb
    have hlt := ownsRow_lt h2 hb
    have hm : mutBlk (σ.getT t) (L t) = some b := by
      rw [h0, h1]
      cases v <;> simp [Value.ownBlock] at hb
      rename_i A n c
      cases A <;> simp at hb
      simp [mutBlk, hb]
    have hle := Fz.le_upd h7.1 (w.heap[b])
    refine ⟨H.upd b (w.heap[b]), hle, r.move (fun i => rfl) (Vl.le_refl L) hle (fun k o hk => ?_) r.fr r.sub (fun u => t = u) (fun u hu => ⟨by rw [St.getT_putT, if_neg hu], rfl⟩) (fun u b' hu hb' => ⟨rfl, ?_⟩) (fun u hu => ?_) (fun u u1 b1 hu hne hb1 => ?_) (fun k hk => by
        have hne : b ≠ k := fun e => hk (e ▸ h7.2)
        simp [Fz.upd, hne])⟩
    · unfold Fz.upd at hk
      by_cases e : b = k
      · subst e
        rw [if_pos rfl] at hk
        cases hk
        exact Array.getElem?_eq_getElem hlt
      · rw [if_neg e] at hk
        exact r.sub k o hk
    · have h8 := ((r.ents u).lt hb').2.1
      unfold Fz.upd
      have : b ≠ b' := fun e => by subst e; exact r.apart t u b hu hm hb'
      rw [if_neg this]; exact h8
    · subst hu
      rw [St.getT_putT, if_pos rfl]
      refine ⟨v, cells, h1, h2, D.RepL.le hle _ _ h3, h4, h5, fun b' hb' => ?_⟩
      rw [hb] at hb'
      cases hb'
      simp [Fz.upd, Array.getElem?_eq_getElem hlt]
    · subst hu
      rw [St.getT_putT, if_pos rfl] at hb1
      simp [mutBlk] at hb1
end
end Go.Ab
