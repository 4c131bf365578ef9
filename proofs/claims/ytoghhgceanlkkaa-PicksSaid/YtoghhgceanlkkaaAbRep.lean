/- What data of the plain evaluator is in the machine's memory. No condition. -/
import Derived.Test.YtoghhgceanlkkaaAbCore
import Derived.Laws.OwnMore
import Derived.Below
namespace Go.Ab
open Go

abbrev Fz := Nat → Option Obj
/-- A cell of what is never written any more. -/
def cellH (H : Fz) (a : Addr) : Option Value :=
  match H a.block with
  | some (.cells c _ _) => if a.spot.isSome then none else c[a.off]?
  | _ => none
def Fz.le (H H' : Fz) : Prop := ∀ k o, H k = some o → H' k = some o
def Fz.sub (H : Fz) (w : World) : Prop := ∀ k o, H k = some o → w.heap[k]? = some o
theorem Fz.le_refl (H : Fz) : H.le H := fun _ _ h => h
theorem Fz.le_trans {H H' H'' : Fz} (h : H.le H') (h' : H'.le H'') : H.le H'' := fun k o x => h' k o (h k o x)
theorem cellH_le {H H' : Fz} (h : H.le H') {a : Addr} {v : Value} (hc : cellH H a = some v) : cellH H' a = some v := by
  unfold cellH at *
  cases hb : H a.block with
  | none => rw [hb] at hc; cases hc
  | some o => rw [hb] at hc; rw [h _ _ hb]; exact hc
theorem cellH_sub {H : Fz} {w : World} (h : H.sub w) {a : Addr} {v : Value} (hc : cellH H a = some v) : w.cell? a = some v := by
  unfold cellH at hc
  unfold World.cell?
  cases hb : H a.block with
  | none => rw [hb] at hc; cases hc
  | some o => rw [hb] at hc; rw [h _ _ hb]; exact hc

/-- Cells of frozen memory from an address on. -/
def Lies (H : Fz) (a : Addr) (cs : List Value) : Prop := ∀ j u, cs[j]? = some u → cellH H (a.add j) = some u
theorem Lies.le {H H' : Fz} (h : H.le H') {a : Addr} {cs : List Value} (hl : Lies H a cs) : Lies H' a cs := fun j u hj => cellH_le h (hl j u hj)

mutual
def D.Rep (H : Fz) : D → List Value → Prop
  | .int k n, vs => vs = [.int k n]
  | .bool b, vs => vs = [.bool b]
  | .flt k b, vs => vs = [.float k b]
  | .cpx k a b, vs => vs = [.complex k a b]
  | .str s, vs => vs = [.string s]
  | .sl sz nl xs ext, vs => (nl = true ∧ xs = [] ∧ ext = [] ∧ vs = [.slice none 0 0]) ∨
      (nl = false ∧ ∃ a cap c1 c2, vs = [.slice (some a) xs.length cap] ∧ xs.length + ext.length ≤ cap ∧ cap ≤ maxLen ∧ Lies H a (c1 ++ c2) ∧ D.RepL H xs c1 ∧ D.RepL H ext c2 ∧ (∀ x ∈ xs, x.width = sz) ∧ ∀ x ∈ ext, x.width = sz)
  | .agg cs, vs => D.RepL H cs vs ∧ ∀ c ∈ cs, c.isAgg = false
  | .nilp, vs => vs = [.pointer none]
  | .fn f, vs => vs = [.func (.func f) #[] #[]]
  | .nilf, vs => vs = [.nilFunc]
def D.RepL (H : Fz) : List D → List Value → Prop
  | [], vs => vs = []
  | x :: xs, vs => ∃ a b, vs = a ++ b ∧ D.Rep H x a ∧ D.RepL H xs b
end

mutual
theorem D.Rep.le {H H' : Fz} (h : H.le H') : ∀ (x : D) (vs : List Value), x.Rep H vs → x.Rep H' vs
  | .int _ _, _, r => r
  | .bool _, _, r => r
  | .flt _ _, _, r => r
  | .cpx _ _ _, _, r => r
  | .str _, _, r => r
  | .sl sz nl xs ext, vs, r => by
    unfold D.Rep at *
    rcases r with r | ⟨h0, a, cap, c1, c2, h1, h2, h3, h4, h5, h6, h7, h8⟩
    · exact .inl r
    · exact .inr ⟨h0, a, cap, c1, c2, h1, h2, h3, h4.le h, D.RepL.le h xs c1 h5, D.RepL.le h ext c2 h6, h7, h8⟩
  | .agg cs, vs, r => by
    unfold D.Rep at *
    exact ⟨D.RepL.le h cs vs r.1, r.2⟩
  | .nilp, _, r => r
  | .fn _, _, r => r
  | .nilf, _, r => r
theorem D.RepL.le {H H' : Fz} (h : H.le H') : ∀ (xs : List D) (vs : List Value), D.RepL H xs vs → D.RepL H' xs vs
  | [], _, r => r
  | x :: xs, vs, r => by
    unfold D.RepL at *
    obtain ⟨a, b, h1, h2, h3⟩ := r
    exact ⟨a, b, h1, D.Rep.le h x a h2, D.RepL.le h xs b h3⟩
end
mutual
theorem D.Rep.len {H : Fz} : ∀ (x : D) (vs : List Value), x.Rep H vs → vs.length = x.width
  | .int _ _, _, r => by unfold D.Rep at r; subst r; rfl
  | .bool _, _, r => by unfold D.Rep at r; subst r; rfl
  | .flt _ _, _, r => by unfold D.Rep at r; subst r; rfl
  | .cpx _ _ _, _, r => by unfold D.Rep at r; subst r; rfl
  | .str _, _, r => by unfold D.Rep at r; subst r; rfl
  | .sl _ _ _ _, _, r => by
    unfold D.Rep at r
    rcases r with ⟨_, _, _, rfl⟩ | ⟨_, _, _, _, _, rfl, _⟩ <;> rfl
  | .agg cs, vs, r => by unfold D.Rep at r; unfold D.width; exact D.RepL.len cs vs r.1
  | .nilp, _, r => by unfold D.Rep at r; subst r; rfl
  | .fn _, _, r => by unfold D.Rep at r; subst r; rfl
  | .nilf, _, r => by unfold D.Rep at r; subst r; rfl
theorem D.RepL.len {H : Fz} : ∀ (xs : List D) (vs : List Value), D.RepL H xs vs → vs.length = D.widthL xs
  | [], _, r => by unfold D.RepL at r; subst r; rfl
  | x :: xs, vs, r => by
    unfold D.RepL at r
    obtain ⟨a, b, rfl, h2, h3⟩ := r
    unfold D.widthL
    rw [List.length_append, D.Rep.len x a h2, D.RepL.len xs b h3]
end
mutual
theorem D.Rep.one {H : Fz} : ∀ (x : D) (vs : List Value), x.Rep H vs → ∀ u ∈ vs, u.oneCell' = true
  | .int _ _, _, r, u, hu => by unfold D.Rep at r; subst r; simp at hu; subst hu; rfl
  | .bool _, _, r, u, hu => by unfold D.Rep at r; subst r; simp at hu; subst hu; rfl
  | .flt _ _, _, r, u, hu => by unfold D.Rep at r; subst r; simp at hu; subst hu; rfl
  | .cpx _ _ _, _, r, u, hu => by unfold D.Rep at r; subst r; simp at hu; subst hu; rfl
  | .str _, _, r, u, hu => by unfold D.Rep at r; subst r; simp at hu; subst hu; rfl
  | .sl _ _ _ _, _, r, u, hu => by
    unfold D.Rep at r
    rcases r with ⟨_, _, _, rfl⟩ | ⟨_, _, _, _, _, rfl, _⟩ <;> (simp at hu; subst hu; rfl)
  | .agg cs, vs, r, u, hu => by unfold D.Rep at r; exact D.RepL.one cs vs r.1 u hu
  | .nilp, _, r, u, hu => by unfold D.Rep at r; subst r; simp at hu; subst hu; rfl
  | .fn _, _, r, u, hu => by unfold D.Rep at r; subst r; simp at hu; subst hu; rfl
  | .nilf, _, r, u, hu => by unfold D.Rep at r; subst r; simp at hu; subst hu; rfl
theorem D.RepL.one {H : Fz} : ∀ (xs : List D) (vs : List Value), D.RepL H xs vs → ∀ u ∈ vs, u.oneCell' = true
  | [], _, r, u, hu => by unfold D.RepL at r; subst r; simp at hu
  | x :: xs, vs, r, u, hu => by
    unfold D.RepL at r
    obtain ⟨a, b, rfl, h2, h3⟩ := r
    rcases List.mem_append.1 hu with h | h
    · exact D.Rep.one x a h2 u h
    · exact D.RepL.one xs b h3 u h
end
theorem D.RepL.append {H : Fz} {ys : List D} {b : List Value} (hb : D.RepL H ys b) : ∀ {xs : List D} {a : List Value}, D.RepL H xs a → D.RepL H (xs ++ ys) (a ++ b)
  | [], a, h => by unfold D.RepL at h; subst h; exact hb
  | x :: xs, a, h => by
    unfold D.RepL at h
    obtain ⟨a1, a2, rfl, h1, h2⟩ := h
    show D.RepL H (x :: (xs ++ ys)) _
    unfold D.RepL
    exact ⟨a1, a2 ++ b, by simp, h1, D.RepL.append hb h2⟩
theorem D.RepL.split {H : Fz} {ys : List D} : ∀ {xs : List D} {c : List Value}, D.RepL H (xs ++ ys) c → ∃ a b, c = a ++ b ∧ D.RepL H xs a ∧ D.RepL H ys b
  | [], c, h => ⟨[], c, rfl, by unfold D.RepL; rfl, h⟩
  | x :: xs, c, h => by
    have h : D.RepL H (x :: (xs ++ ys)) c := h
    unfold D.RepL at h
    obtain ⟨a1, a2, rfl, h1, h2⟩ := h
    obtain ⟨b1, b2, rfl, h3, h4⟩ := D.RepL.split h2
    exact ⟨a1 ++ b1, b2, by simp, by unfold D.RepL; exact ⟨a1, b1, rfl, h1, h3⟩, h4⟩
theorem D.widthL_const {sz : Nat} : ∀ {xs : List D}, (∀ x ∈ xs, x.width = sz) → D.widthL xs = xs.length * sz
  | [], _ => by simp [D.widthL]
  | x :: xs, h => by
    unfold D.widthL
    rw [h x (by simp), D.widthL_const (fun y hy => h y (by simp [hy])), List.length_cons, Nat.add_mul]
    omega
/-- The cells of one element. -/
theorem D.RepL.at {H : Fz} {sz : Nat} {xs : List D} {c : List Value} (h : D.RepL H xs c) (hw : ∀ x ∈ xs, x.width = sz) {i : Nat} {x : D} (hx : xs[i]? = some x) :
    ∃ a, D.Rep H x a ∧ a.length = sz ∧ ∀ j u, a[j]? = some u → c[i * sz + j]? = some u := by
  have hl : i < xs.length := (List.getElem?_eq_some_iff.1 hx).1
  have hsplit : xs = xs.take i ++ x :: xs.drop (i + 1) := by
    have h2 : xs[i] = x := (List.getElem?_eq_some_iff.1 hx).2
    have h3 := List.drop_eq_getElem_cons hl
    rw [h2] at h3
    rw [← h3, List.take_append_drop]
  rw [hsplit] at h
  obtain ⟨a, b, rfl, h1, h2⟩ := D.RepL.split h
  unfold D.RepL at h2
  obtain ⟨b1, b2, rfl, h3, h4⟩ := h2
  refine ⟨b1, h3, (D.Rep.len x b1 h3).trans (hw x (List.mem_of_getElem? hx)), fun j u hj => ?_⟩
  have ha : a.length = i * sz := by
    rw [D.RepL.len _ _ h1, D.widthL_const (sz := sz) (fun y hy => hw y (List.mem_of_mem_take hy)), List.length_take, Nat.min_eq_left (Nat.le_of_lt hl)]
  have hj' : j < b1.length := (List.getElem?_eq_some_iff.1 hj).1
  rw [List.getElem?_append_right (by omega), ha, Nat.add_sub_cancel_left, List.getElem?_append_left hj']
  exact hj
theorem D.cells_Rep {H : Fz} {x : D} {vs : List Value} (h : x.Rep H vs) : D.RepL H x.cells vs ∧ ∀ c ∈ x.cells, c.isAgg = false := by
  cases x <;> first
    | (unfold D.Rep at h; exact h)
    | exact ⟨by unfold D.cells D.RepL; exact ⟨vs, [], by simp, h, by unfold D.RepL; rfl⟩, by intro c hc; simp [D.cells] at hc; subst hc; rfl⟩

/-- A value that is data. -/
def D.RepV (H : Fz) (x : D) (v : Value) : Prop :=
  match x with
  | .agg cs => ∃ arr, v = .agg arr ∧ D.Rep H (.agg cs) arr.toList
  | x => D.Rep H x [v]
theorem D.RepV.le {H H' : Fz} (h : H.le H') {x : D} {v : Value} (r : x.RepV H v) : x.RepV H' v := by
  cases x <;> first
    | (obtain ⟨arr, h1, h2⟩ := r; exact ⟨arr, h1, D.Rep.le h _ _ h2⟩)
    | exact D.Rep.le h _ _ r
theorem D.RepV.cells {H : Fz} {x : D} {v : Value} (r : x.RepV H v) : D.RepL H x.cells v.cells.toList ∧ (∀ c ∈ x.cells, c.isAgg = false) ∧ D.Rep H x v.cells.toList := by
  cases x with
  | agg cs =>
    obtain ⟨arr, rfl, h2⟩ := r
    exact ⟨(D.cells_Rep h2).1, (D.cells_Rep h2).2, h2⟩
  | _ =>
    have h1 : v.cells.toList = [v] := by
      have := r
      simp only [D.RepV] at this
      unfold D.Rep at this
      first
        | (simp at this; subst this; rfl)
        | (rcases this with ⟨_, _, _, h⟩ | ⟨_, _, _, _, _, h, _⟩ <;> (simp at h; subst h; rfl))
    rw [h1]
    exact ⟨(D.cells_Rep r).1, (D.cells_Rep r).2, r⟩

/-! ### Values in slots -/
abbrev Vl := Tok → Option Value
def Vl.le (L L' : Vl) : Prop := ∀ t v, L t = some v → L' t = some v
theorem Vl.le_refl (L : Vl) : L.le L := fun _ _ h => h
theorem Vl.le_trans {L L' L'' : Vl} (h : L.le L') (h' : L'.le L'') : L.le L'' := fun t v x => h' t v (h t v x)

mutual
def Val.Rep (H : Fz) (L : Vl) : Val → Value → Prop
  | .dead, _ => True
  | .und, v => v = undef
  | .d x, v => x.RepV H v
  | .ref t none, v => L t = some v ∧ ∃ A n c, v = .slice A n c
  | .ref t (some h), v => ∃ A n c, L t = some (.slice A n c) ∧ v = .slice A h c ∧ h ≤ n
  | .ptr t off, v => ∃ b, L t = some (.pointer (some ⟨b, 0, none⟩)) ∧ v = .pointer (some ⟨b, off, none⟩)
  | .eptr t sz i off, v => ∃ b n c, L t = some (.slice (some ⟨b, 0, none⟩) n c) ∧ v = .pointer (some ⟨b, i * sz + off, none⟩)
  | .dptr xs, v => ∃ a cs, v = .pointer (some a) ∧ D.RepL H xs cs ∧ Lies H a cs ∧ ∀ c ∈ xs, c.isAgg = false
  | .fn f caps, v => ∃ arr, v = .func (.func f) #[] arr ∧ Val.RepL H L caps arr.toList
  | .agg cs, v => ∃ arr, v = .agg arr ∧ Val.RepL H L cs arr.toList ∧ ∀ c ∈ cs, c.isCell = true
  | .tup vs, v => ∃ arr, v = .tuple arr ∧ Val.RepL H L vs arr.toList
def Val.RepL (H : Fz) (L : Vl) : List Val → List Value → Prop
  | [], vs => vs = []
  | x :: xs, vs => ∃ v r, vs = v :: r ∧ Val.Rep H L x v ∧ Val.RepL H L xs r
end

mutual
theorem Val.Rep.le {H H' : Fz} {L L' : Vl} (h : H.le H') (hl : L.le L') : ∀ (x : Val) (v : Value), x.Rep H L v → x.Rep H' L' v
  | .dead, _, r => r
  | .und, _, r => r
  | .d x, v, r => by unfold Val.Rep at *; exact D.RepV.le h r
  | .ref t none, v, r => by unfold Val.Rep at *; exact ⟨hl _ _ r.1, r.2⟩
  | .ref t (some n), v, r => by
    unfold Val.Rep at *
    obtain ⟨A, n, c, h1, h2⟩ := r
    exact ⟨A, n, c, hl _ _ h1, h2⟩
  | .ptr t off, v, r => by
    unfold Val.Rep at *
    obtain ⟨b, h1, h2⟩ := r
    exact ⟨b, hl _ _ h1, h2⟩
  | .eptr t sz i off, v, r => by
    unfold Val.Rep at *
    obtain ⟨b, n, c, h1, h2⟩ := r
    exact ⟨b, n, c, hl _ _ h1, h2⟩
  | .dptr xs, v, r => by
    unfold Val.Rep at *
    obtain ⟨a, cs, h1, h2, h3, h4⟩ := r
    exact ⟨a, cs, h1, D.RepL.le h _ _ h2, h3.le h, h4⟩
  | .fn f caps, v, r => by
    unfold Val.Rep at *
    obtain ⟨arr, h1, h2⟩ := r
    exact ⟨arr, h1, Val.RepL.le h hl caps _ h2⟩
  | .agg cs, v, r => by
    unfold Val.Rep at *
    obtain ⟨arr, h1, h2, h3⟩ := r
    exact ⟨arr, h1, Val.RepL.le h hl cs _ h2, h3⟩
  | .tup vs, v, r => by
    unfold Val.Rep at *
    obtain ⟨arr, h1, h2⟩ := r
    exact ⟨arr, h1, Val.RepL.le h hl vs _ h2⟩
theorem Val.RepL.le {H H' : Fz} {L L' : Vl} (h : H.le H') (hl : L.le L') : ∀ (xs : List Val) (vs : List Value), Val.RepL H L xs vs → Val.RepL H' L' xs vs
  | [], _, r => r
  | x :: xs, vs, r => by
    unfold Val.RepL at *
    obtain ⟨v, r, h1, h2, h3⟩ := r
    exact ⟨v, r, h1, Val.Rep.le h hl x v h2, Val.RepL.le h hl xs r h3⟩
end
theorem Val.RepL.len {H : Fz} {L : Vl} : ∀ {xs : List Val} {vs : List Value}, Val.RepL H L xs vs → vs.length = xs.length
  | [], _, r => by unfold Val.RepL at r; subst r; rfl
  | x :: xs, vs, r => by
    unfold Val.RepL at r
    obtain ⟨v, r, rfl, _, h⟩ := r
    simp [Val.RepL.len h]
theorem Val.RepL.get {H : Fz} {L : Vl} : ∀ {xs : List Val} {vs : List Value}, Val.RepL H L xs vs → ∀ {i : Nat} {x : Val}, xs[i]? = some x → ∃ v, vs[i]? = some v ∧ x.Rep H L v
  | [], _, _, i, x, hx => by simp at hx
  | y :: ys, vs, r, i, x, hx => by
    unfold Val.RepL at r
    obtain ⟨v, r, rfl, h1, h⟩ := r
    cases i with
    | zero => simp at hx; subst hx; exact ⟨v, rfl, h1⟩
    | succ i => simp at hx ⊢; exact Val.RepL.get h hx
theorem Val.RepL.append {H : Fz} {L : Vl} {ys : List Val} {b : List Value} (hb : Val.RepL H L ys b) : ∀ {xs : List Val} {a : List Value}, Val.RepL H L xs a → Val.RepL H L (xs ++ ys) (a ++ b)
  | [], a, h => by unfold Val.RepL at h; subst h; exact hb
  | x :: xs, a, h => by
    unfold Val.RepL at h
    obtain ⟨v, r, rfl, h1, h2⟩ := h
    show Val.RepL H L (x :: (xs ++ ys)) _
    unfold Val.RepL
    exact ⟨v, r ++ b, by simp, h1, Val.RepL.append hb h2⟩
theorem Val.RepL.take {H : Fz} {L : Vl} : ∀ {xs : List Val} {vs : List Value} (n : Nat), Val.RepL H L xs vs → Val.RepL H L (xs.take n) (vs.take n)
  | [], _, n, r => by unfold Val.RepL at r; subst r; simp [Val.RepL]
  | x :: xs, vs, 0, r => by simp [Val.RepL]
  | x :: xs, vs, n + 1, r => by
    unfold Val.RepL at r
    obtain ⟨v, r, rfl, h1, h2⟩ := r
    simp only [List.take_succ_cons]
    unfold Val.RepL
    exact ⟨v, _, rfl, h1, Val.RepL.take n h2⟩
theorem Val.RepL.drop {H : Fz} {L : Vl} : ∀ {xs : List Val} {vs : List Value} (n : Nat), Val.RepL H L xs vs → Val.RepL H L (xs.drop n) (vs.drop n)
  | [], _, n, r => by unfold Val.RepL at r; subst r; simp [Val.RepL]
  | x :: xs, vs, 0, r => r
  | x :: xs, vs, n + 1, r => by
    unfold Val.RepL at r
    obtain ⟨v, r, rfl, h1, h2⟩ := r
    simp only [List.drop_succ_cons]
    exact Val.RepL.drop n h2
/-- Data cells as values of slots. -/
theorem D.RepL.vals {H : Fz} {L : Vl} : ∀ {xs : List D} {vs : List Value}, D.RepL H xs vs → (∀ c ∈ xs, c.isAgg = false) → Val.RepL H L (xs.map .d) vs
  | [], vs, h, _ => by unfold D.RepL at h; subst h; simp [Val.RepL]
  | x :: xs, vs, h, ho => by
    unfold D.RepL at h
    obtain ⟨a, b, rfl, h1, h2⟩ := h
    have hx := ho x (by simp)
    have hl := D.Rep.len x a h1
    have h1' : a.length = 1 := by rw [hl]; cases x <;> first | rfl | simp [D.isAgg] at hx
    obtain ⟨v, rfl⟩ : ∃ v, a = [v] := by
      match a, h1' with
      | [v], _ => exact ⟨v, rfl⟩
    simp only [List.map_cons]
    unfold Val.RepL
    refine ⟨v, b, rfl, ?_, D.RepL.vals h2 (fun c hc => ho c (by simp [hc]))⟩
    unfold Val.Rep
    cases x <;> first | (simp [D.isAgg] at hx; done) | exact h1
theorem Val.RepL.data {H : Fz} {L : Vl} : ∀ {xs : List D} {vs : List Value}, Val.RepL H L (xs.map .d) vs → (∀ c ∈ xs, c.isAgg = false) → D.RepL H xs vs
  | [], vs, h, _ => by simp [Val.RepL] at h; subst h; unfold D.RepL; rfl
  | x :: xs, vs, h, ho => by
    simp only [List.map_cons] at h
    unfold Val.RepL at h
    obtain ⟨v, r, rfl, h1, h2⟩ := h
    unfold D.RepL
    refine ⟨[v], r, rfl, ?_, Val.RepL.data h2 (fun c hc => ho c (by simp [hc]))⟩
    have hx := ho x (by simp)
    unfold Val.Rep at h1
    cases x <;> first | (simp [D.isAgg] at hx; done) | exact h1
theorem allD_some : ∀ {vs : List Val} {xs : List D}, allD vs = some xs → vs = xs.map .d
  | [], xs, h => by simp [allD] at h; subst h; rfl
  | v :: vs, xs, h => by
    cases v <;> simp only [allD] at h <;> first
      | (cases h; done)
      | (obtain ⟨ys, h1, rfl⟩ := Option.map_eq_some_iff.1 h
         rw [allD_some h1]; rfl)
theorem Val.isCell_one {H : Fz} {L : Vl} {x : Val} {v : Value} (h : x.Rep H L v) (hc : x.isCell = true) : v.oneCell' = true ∧ v.cells.toList = [v] := by
  cases x <;> simp [Val.isCell] at hc
  case d x =>
    unfold Val.Rep at h
    have h1 : D.Rep H x [v] := by cases x <;> first | (simp [D.isAgg] at hc; done) | exact h
    have h2 := D.Rep.one x [v] h1 v (by simp)
    refine ⟨h2, ?_⟩
    cases v <;> first | rfl | simp [Value.oneCell'] at h2
  case ref t l =>
    cases l with
    | none =>
      unfold Val.Rep at h
      obtain ⟨_, _, _, _, rfl⟩ := h
      exact ⟨rfl, rfl⟩
    | some n =>
      unfold Val.Rep at h
      obtain ⟨_, _, _, _, rfl, _⟩ := h
      exact ⟨rfl, rfl⟩
  case ptr t o => unfold Val.Rep at h; obtain ⟨_, _, rfl⟩ := h; exact ⟨rfl, rfl⟩
  case fn f cs => unfold Val.Rep at h; obtain ⟨_, rfl, _⟩ := h; exact ⟨rfl, rfl⟩
end Go.Ab
