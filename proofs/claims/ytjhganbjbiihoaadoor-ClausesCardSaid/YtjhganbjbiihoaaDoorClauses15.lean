/- slices.Insert of one number into a row of the call's own: what the library's text does. No condition but that the program has that text. -/
import Derived.Shelf.Spec.SlicesInsert
import Derived.Shelf.Spec.SlicesInsertGrow
import Derived.Test.YtjhganbjbiihoaaDoorClauses0
import Derived.Test.YtjhganbjbiihoaaDoorClauses1
import Derived.Test.YtjhganbjbiihoaaDoorClauses2
import Derived.Test.YtjhganbjbiihoaaDoorClauses3
import Derived.Test.YtjhganbjbiihoaaDoorClauses4
import Derived.Test.YtjhganbjbiihoaaDoorClauses5
import Derived.Test.YtjhganbjbiihoaaDoorClauses6
import Derived.Test.YtjhganbjbiihoaaDoorClauses7
import Derived.Test.YtjhganbjbiihoaaDoorClauses8
import Derived.Test.YtjhganbjbiihoaaDoorClauses9
import Derived.Test.YtjhganbjbiihoaaDoorClauses10
import Derived.Test.YtjhganbjbiihoaaDoorClauses11
import Derived.Test.YtjhganbjbiihoaaDoorClauses12
import Derived.Test.YtjhganbjbiihoaaDoorClauses13
import Derived.Test.YtjhganbjbiihoaaDoorClauses14
set_option linter.unusedVariables false
set_option linter.unusedSimpArgs false
namespace Go.Ab
open Go Go.Proofs

theorem set_parts {α : Type} {l : List α} {o : Nat} {v : α} (h : o < l.length) (r : List α) : (l.set o v).take (o + 1) ++ r ++ (l.set o v).drop (o + 1 + r.length) = l.take o ++ (v :: r) ++ l.drop (o + (r.length + 1)) := by
  have h1 : l.set o v = l.take o ++ v :: l.drop (o + 1) := by rw [List.set_eq_take_append_cons_drop, if_pos h]
  have ha : (l.take o).length = o := by rw [List.length_take]; omega
  have h2 : (l.take o ++ v :: l.drop (o + 1)).take (o + 1) = l.take o ++ [v] := by
    have := List.take_length_add_append (l₁ := l.take o) (l₂ := v :: l.drop (o + 1)) 1
    rw [ha] at this
    rw [this]; rfl
  have h3 : (l.take o ++ v :: l.drop (o + 1)).drop (o + 1 + r.length) = l.drop (o + (r.length + 1)) := by
    have := List.drop_length_add_append (l₁ := l.take o) (l₂ := v :: l.drop (o + 1)) (1 + r.length)
    rw [ha, ← Nat.add_assoc] at this
    rw [this, Nat.add_comm 1, List.drop_succ_cons, List.drop_drop]
    congr 1
    omega
  rw [h1, h2, h3]
  simp
theorem heap_setCells (b : Nat) : ∀ (vs : List Value) (o : Nat) (w : World) {cur : Array Value} {e : TypeId} {fr : Nat × Nat}, w.heap[b]? = some (.cells cur e fr) → o + vs.length ≤ cur.size →
    ∃ cur', (w.setCells b o vs).heap[b]? = some (.cells cur' e fr) ∧ cur'.toList = cur.toList.take o ++ vs ++ cur.toList.drop (o + vs.length)
  | [], o, w, cur, e, fr, h, hs => ⟨cur, h, by simp⟩
  | v :: r, o, w, cur, e, fr, h, hs => by
    simp only [List.length_cons] at hs
    have h1 : (w.setCell ⟨b, o, none⟩ v).heap[b]? = some (.cells (cur.setIfInBounds o v) e fr) := by
      simp [World.setCell, Array.getElem?_modify, h]
    obtain ⟨cur', h2, h3⟩ := heap_setCells b r (o + 1) (w.setCell ⟨b, o, none⟩ v) h1 (by simp; omega)
    refine ⟨cur', h2, h3.trans ?_⟩
    rw [Array.toList_setIfInBounds]
    exact set_parts (by simp; omega) r
theorem ins_list {α : Type} {cur xs : List α} {x : α} {n i : Nat} (h : cur.take n = xs) (hl : xs.length = n) (hi : i ≤ n) (hc : n + 1 ≤ cur.length) :
    (((cur.take (i + 1) ++ xs.drop i ++ cur.drop (i + 1 + (xs.drop i).length)).take i ++ [x] ++ (cur.take (i + 1) ++ xs.drop i ++ cur.drop (i + 1 + (xs.drop i).length)).drop (i + [x].length)).take (n + 1)) = xs.take i ++ x :: xs.drop i := by
  have e0 : (cur.take (i + 1)).length = i + 1 := by rw [List.length_take]; omega
  have e1 : (cur.take (i + 1) ++ xs.drop i ++ cur.drop (i + 1 + (xs.drop i).length)).take i = xs.take i := by
    rw [List.append_assoc, List.take_append_of_le_length (by omega), List.take_take, ← h, List.take_take]
    congr 1
    omega
  have e2 : (cur.take (i + 1) ++ xs.drop i ++ cur.drop (i + 1 + (xs.drop i).length)).drop (i + [x].length) = xs.drop i ++ cur.drop (i + 1 + (xs.drop i).length) := by
    have := List.drop_length_add_append (l₁ := cur.take (i + 1)) (l₂ := xs.drop i ++ cur.drop (i + 1 + (xs.drop i).length)) 0
    rw [e0, List.drop_zero] at this
    rw [List.append_assoc]
    exact this
  rw [e1, e2]
  have e3 : xs.take i ++ [x] ++ (xs.drop i ++ cur.drop (i + 1 + (xs.drop i).length)) = (xs.take i ++ x :: xs.drop i) ++ cur.drop (i + 1 + (xs.drop i).length) := by simp
  rw [e3, List.take_append_of_le_length (by simp; omega)]
  exact List.take_of_length_le (by simp; omega)
theorem grownBy_setCells {w0 w : World} {row : Option Nat} {b : Nat} (h : w0.grownBy w row) (hb : row = some b ∨ w0.heap.size ≤ b) (o : Nat) (vs : List Value) : w0.grownBy (w.setCells b o vs) row := by
  have hk := World.keptBut_setCells b (may := fun _ => True) vs o w (fun _ _ => trivial)
  have hb' : ∀ (vs : List Value) (o : Nat) (w : World) (k : Nat), k ≠ b → (w.setCells b o vs).heap[k]? = w.heap[k]? := by
    intro vs
    induction vs with
    | nil => intro o w k hk; rfl
    | cons v r ih =>
      intro o w k hk
      rw [World.setCells, ih _ _ _ hk]
      simp [World.setCell, Array.getElem?_modify, Ne.symm hk]
  have hs : ∀ (vs : List Value) (o : Nat) (w : World), (w.setCells b o vs).heap.size = w.heap.size ∧ (w.setCells b o vs).os = w.os ∧ (w.setCells b o vs).tape = w.tape ∧ (w.setCells b o vs).output = w.output := by
    intro vs
    induction vs with
    | nil => intro o w; exact ⟨rfl, rfl, rfl, rfl⟩
    | cons v r ih =>
      intro o w
      obtain ⟨a1, a2, a3, a4⟩ := ih (o + 1) (w.setCell ⟨b, o, none⟩ v)
      exact ⟨by rw [World.setCells, a1]; simp, by rw [World.setCells, a2]; rfl, by rw [World.setCells, a3]; rfl, by rw [World.setCells, a4]; rfl⟩
  obtain ⟨s1, s2, s3, s4⟩ := hs vs o w
  refine ⟨s2.trans h.os, s3.trans h.tape, s4.trans h.output, by rw [s1]; exact h.size, fun k hk1 hne => ?_⟩
  rw [hb' vs o w k (fun e => by
    subst e
    rcases hb with hb | hb
    · exact hne hb.symm
    · omega)]
  exact h.block k hk1 hne
theorem grownBy_drew {w0 w : World} {row : Option Nat} (h : w0.grownBy w row) : w0.grownBy w.drew row := ⟨h.os, h.tape, h.output, h.size, h.block⟩
theorem grownBy_refl (w : World) (row : Option Nat) : w.grownBy w row := ⟨rfl, rfl, rfl, Nat.le_refl _, fun _ _ _ => rfl⟩
theorem grownBy_alloc' {w0 w : World} {row : Option Nat} (h : w0.grownBy w row) (o : Obj) : w0.grownBy (w.alloc o) row :=
  ⟨h.os, h.tape, h.output, Nat.le_trans h.size (by simp), fun k hk hne => by rw [Go.heap_alloc_old w o (Nat.lt_of_lt_of_le hk h.size)]; exact h.block k hk hne⟩
section
variable {P : Program} {ρ : Go.Shelf.Ren}
theorem ins_end_grow (L : Lays2.n21 P ρ) {w : World} {base : Option Addr} {n c vb vc : Nat} {xs : List Value} {x : Int} (hnc : n ≤ c) (hroom : c < n + 1) (hbig : (n + 1) * 8 ≤ 140737488355328) (hcl : xs.length = n) (hnil : base = none → n = 0)
    (hcs : ∀ a, base = some a → ∀ j v, xs[j]? = some v → w.cell? (a.add j) = some v) (hvs : ∀ j v, [Value.int .i64 x][j]? = some v → w.cell? ⟨vb, 0 + j, none⟩ = some v) :
    Calls P (ρ.f 21) #[.slice base n c, .int .i64 n, .slice (some ⟨vb, 0, none⟩) 1 vc] w fun ex w' => ∃ v', ex = .returned v' ∧ w'.ownsRow 0 (ρ.t 3) 1 v' (n + 1) (xs ++ [.int .i64 x]) ∧ w.grownBy w' (Value.slice base n c).ownBlock ∧ v'.ownBlock = some w.heap.size := by
  refine (Any2.slices_Insert_int_end_grow L base n c vb 0 1 vc xs [.int .i64 x] w (by omega) hnc hroom hbig hcl rfl hnil hcs hvs (by simp [Value.oneCell'])).mono ?_
  rintro e w' ⟨rfl, rfl⟩
  have hm : n + 1 ≤ maxLen := by simp only [maxLen]; omega
  have hge := grownCap_ge w (n + 1) c (ρ.t 3)
  refine ⟨_, rfl, ⟨by simp [hcl], .inr ⟨w.heap.size, _, _, rfl, Nat.zero_le _, heap_alloc_new _ _, hge, grownCap_le_maxLen w (n + 1) c (ρ.t 3) hm, ?_, ?_⟩⟩, ?_, rfl⟩
  · simp only [Array.size_append, List.size_toArray, List.length_append, List.length_cons, List.length_nil, size_zeroCells, Value.cells]
    simp [hcl]; omega
  · rw [Array.toList_append, List.take_append_of_le_length (by simp [hcl])]
    exact List.take_of_length_le (by simp [hcl])
  · exact grownBy_alloc' (grownBy_drew (grownBy_refl w _)) _
theorem ins_ok (L : Lays2.n21 P ρ) : InsOk P (ρ.f 21) (ρ.t 3) := by
  intro w u v n i xs x hu hv hne hi hbig h1
  have hcl : xs.length = n := by simpa using hu.1
  obtain ⟨g, vc, vcur, rfl, hvh, hvsz, hvc, hcell⟩ : ∃ vb vc vcur, v = .slice (some ⟨vb, 0, none⟩) 1 vc ∧ w.heap[vb]? = some (.cells vcur (ρ.t 3) (0, 0)) ∧ vcur.size = vc * 1 ∧ 1 ≤ vc ∧ w.cell? ⟨vb, 0, none⟩ = some (.int .i64 x) := by
    rcases hv.2 with ⟨_, h0⟩ | ⟨vb, vc, vcur, h0, _, h2, h3, h4, h5, h6⟩
    · omega
    · subst h0
      exact ⟨vb, vc, vcur, rfl, h2, h5, h3, hv.cells (g := vb) rfl 0 _ rfl⟩
  have hvs : ∀ j y, [Value.int .i64 x][j]? = some y → w.cell? ⟨g, 0 + j, none⟩ = some y := fun j y hj => by
    cases j with
    | zero => simp at hj; subst hj; exact hcell
    | succ j => simp at hj
  rcases hu.2 with ⟨rfl, rfl⟩ | ⟨b, cap, cur, rfl, _, hb, hn, hcap, hcs, htake⟩
  · obtain rfl : i = 0 := by omega
    have hx0 : xs = [] := List.length_eq_zero_iff.1 hcl
    subst hx0
    refine (ins_end_grow L (base := none) (n := 0) (c := 0) (xs := []) (Nat.le_refl _) (by omega) hbig rfl (fun _ => rfl) (fun a h => by cases h) hvs).mono ?_
    rintro e w' ⟨v', h1, h2, h3, h4⟩
    exact ⟨v', h1, h2, h3, .inr h4, by rw [h4]; simp⟩
  have hne' : g ≠ b := fun e => hne (by simp [Value.ownBlock, e])
  have hcsx : ∀ j y, xs[j]? = some y → w.cell? ⟨b, 0 + j, none⟩ = some y := fun j y hj => by
    have := hu.cells (g := b) rfl j y hj
    rw [Nat.zero_add]
    cases j <;> simpa [Addr.add] using this
  have hcur : cur.size = cap := by omega
  have htk : cur.toList.take n = xs := by simpa using htake
  have h1x : ∀ v ∈ [Value.int .i64 x], v.oneCell' = true := by simp [Value.oneCell']
  by_cases hroom : n + 1 ≤ cap
  · have hsp : ∀ j, j < n + 1 → (w.cell? ⟨b, 0 + j, none⟩).isSome = true := fun j hj => by
      have : j < cur.size := by omega
      simp [World.cell?, hb, this]
    have hfz : ∀ j, (w.frozen? ⟨b, j, none⟩) = false := fun j => by simp [World.frozen?, hb]
    by_cases hin : i < n
    · refine (Any2.slices_Insert_int_shift L b 0 n cap i g 0 1 vc xs [.int .i64 x] w hin (by omega) hroom (by simp only [maxLen] at hcap; omega) hne' hcl rfl hcsx hsp (fun j _ => hfz _) hvs h1 h1x (ρ.t 3) (ρ.t 3) vcur.size cur.size (by simp [World.shape?, hvh]) (by simp [World.shape?, hb]) (by omega) (by simp [World.frozen?, hvh]) (by simp [World.frozen?, hvh])).mono ?_
      rintro e w' ⟨rfl, rfl⟩
      rw [Nat.zero_add, Nat.zero_add]
      obtain ⟨c1, k1, k2⟩ := heap_setCells b (xs.drop i) (i + 1) w.drew (cur := cur) (e := ρ.t 3) (fr := (0, 0)) hb (by rw [List.length_drop]; omega)
      have hl1 : c1.size = cur.size := by
        have := congrArg List.length k2
        simp at this
        omega
      obtain ⟨c2, k3, k4⟩ := heap_setCells b [.int .i64 x] i _ k1 (by simp; omega)
      have hl2 : c2.size = cur.size := by
        have := congrArg List.length k4
        simp at this
        omega
      refine ⟨_, rfl, ⟨by simp; omega, .inr ⟨b, cap, c2, rfl, Nat.zero_le _, k3, hroom, hcap, by omega, ?_⟩⟩, grownBy_setCells (grownBy_setCells (grownBy_drew (grownBy_refl w _)) (.inl rfl) _ _) (.inl rfl) _ _, .inl rfl, by simp [Value.ownBlock]⟩
      rw [k4, k2, Nat.mul_one]
      exact ins_list htk hcl (Nat.le_of_lt hin) (by simp; omega)
    · obtain rfl : i = n := by omega
      refine (Any2.slices_Insert_int_end_room L b 0 i cap g 0 1 vc [.int .i64 x] w (by omega) hroom (by simp only [maxLen] at hcap; omega) rfl (fun j hj => by have := hsp i (by omega); have e0 : j = 0 := Nat.lt_one_iff.1 hj; rw [e0]; exact this) (fun j _ => hfz _) hvs h1x).mono ?_
      rintro e w' ⟨rfl, rfl⟩
      rw [Nat.zero_add]
      obtain ⟨c2, k3, k4⟩ := heap_setCells b [.int .i64 x] i w (cur := cur) (e := ρ.t 3) (fr := (0, 0)) hb (by simp; omega)
      have hl2 : c2.size = cur.size := by
        have := congrArg List.length k4
        simp at this
        omega
      refine ⟨_, rfl, ⟨by simp; omega, .inr ⟨b, cap, c2, rfl, Nat.zero_le _, k3, hroom, hcap, by omega, ?_⟩⟩, grownBy_setCells (grownBy_refl w _) (.inl rfl) _ _, .inl rfl, by simp [Value.ownBlock]⟩
      rw [k4, Nat.mul_one, htk]
      have e1 : xs.take i = xs := List.take_of_length_le (by omega)
      have e2 : xs.drop i = [] := List.drop_of_length_le (by omega)
      rw [e1, e2, List.take_append_of_le_length (by simp; omega)]
      exact List.take_of_length_le (by simp; omega)
  · by_cases hin : i < n
    · have hm : n + 1 ≤ maxLen := by simp only [maxLen]; omega
      have hge := grownCap_ge w (n + 1) cap (ρ.t 3)
      have hle := grownCap_le_maxLen w (n + 1) cap (ρ.t 3) hm
      refine (Any2.slices_Insert_int_grow L b 0 n cap i g 0 1 vc xs [.int .i64 x] w hin (by omega) hn (by omega) hbig hcl rfl hcsx hvs h1 h1x).mono ?_
      rintro e w' ⟨rfl, rfl⟩
      generalize hc0 : (xs.take i).toArray ++ Builtin.zeroCells (Value.int .i64 0).cells (n + 1 - i) ++ Builtin.zeroCells (Value.int .i64 0).cells (grownCap w (n + 1) cap (ρ.t 3) - (n + 1)) = c0
      have hs0 : c0.size = grownCap w (n + 1) cap (ρ.t 3) := by
        rw [← hc0]
        simp only [Array.size_append, List.size_toArray, List.length_take, size_zeroCells, Value.cells]
        simp; omega
      have ht0 : c0.toList.take i = xs.take i := by
        rw [← hc0, Array.toList_append, Array.toList_append, List.append_assoc, List.take_append_of_le_length (by simp; omega)]
        exact List.take_of_length_le (by rw [List.length_take]; omega)
      have hnew : (w.alloc (.cells c0 (ρ.t 3))).heap[w.heap.size]? = some (.cells c0 (ρ.t 3) (0, 0)) := heap_alloc_new w _
      obtain ⟨c1, k1, k2⟩ := heap_setCells w.heap.size [.int .i64 x] i (w.alloc (.cells c0 (ρ.t 3))).drew (cur := c0) (e := ρ.t 3) (fr := (0, 0)) hnew (by simp; omega)
      have hl1 : c1.size = c0.size := by
        have := congrArg List.length k2
        simp at this
        omega
      obtain ⟨c2, k3, k4⟩ := heap_setCells w.heap.size (xs.drop i) (i + 1) ((w.alloc (.cells c0 (ρ.t 3))).drew.setCells w.heap.size i [.int .i64 x]).drew (cur := c1) (e := ρ.t 3) (fr := (0, 0)) k1 (by rw [List.length_drop]; omega)
      have hl2 : c2.size = c0.size := by
        have := congrArg List.length k4
        simp at this
        omega
      refine ⟨_, rfl, ⟨by simp; omega, .inr ⟨w.heap.size, _, c2, rfl, Nat.zero_le _, k3, hge, hle, by omega, ?_⟩⟩, grownBy_setCells (grownBy_drew (grownBy_setCells (grownBy_drew (grownBy_alloc' (grownBy_refl w _) _)) (.inr (Nat.le_refl _)) _ _)) (.inr (Nat.le_refl _)) _ _, .inr rfl, by simp [Value.ownBlock]⟩
      rw [k4, k2, Nat.mul_one, ht0]
      have e1 : (xs.take i ++ [Value.int .i64 x] ++ c0.toList.drop (i + [Value.int .i64 x].length)).take (i + 1) = xs.take i ++ [Value.int .i64 x] := by
        rw [List.take_append_of_le_length (by simp; omega)]
        exact List.take_of_length_le (by simp; omega)
      rw [e1]
      have e2 : xs.take i ++ [Value.int .i64 x] ++ xs.drop i = xs.take i ++ Value.int .i64 x :: xs.drop i := by simp
      rw [e2, List.take_append_of_le_length (by simp; omega)]
      exact List.take_of_length_le (by simp; omega)
    · obtain rfl : i = n := by omega
      have hcs2 : ∀ a, some (⟨b, 0, none⟩ : Addr) = some a → ∀ j v, xs[j]? = some v → w.cell? (a.add j) = some v := fun a ha j v hj => by
        cases ha
        exact hu.cells (g := b) rfl j v hj
      refine (ins_end_grow L (base := some ⟨b, 0, none⟩) (n := i) (c := cap) (xs := xs) hn (by omega) hbig hcl (fun h => by cases h) hcs2 hvs).mono ?_
      rintro e w' ⟨v', h1, h2, h3, h4⟩
      have e1 : xs.take i = xs := List.take_of_length_le (by omega)
      have e2 : xs.drop i = [] := List.drop_of_length_le (by omega)
      rw [e1, e2]
      exact ⟨v', h1, h2, h3, .inr h4, by rw [h4]; simp⟩
end
end Go.Ab

/- Where a table's functions mark Insert. No condition. -/
namespace Go.Ab
open Go
theorem insOf_mem : ∀ {cv : List (Nat × Cv)} {g : FuncId} {e : TypeId}, insOf cv g = some e → (1000000 + g, Cv.own e) ∈ cv
  | [], g, e, h => by simp [insOf] at h
  | (i, c) :: r, g, e, h => by
    cases c with
    | own t =>
      simp only [insOf] at h
      split at h
      · rename_i hi; cases h; rw [hi]; exact List.mem_cons_self ..
      · exact List.mem_cons_of_mem _ (insOf_mem h)
    | _ => simp only [insOf] at h; exact List.mem_cons_of_mem _ (insOf_mem h)
theorem codeOf_mem : ∀ {l : List (FuncId × FnD)} {f : FuncId} {fn : FnD}, codeOf l f = some fn → ∃ p ∈ l, p.2 = fn
  | [], f, fn, h => by simp [codeOf] at h
  | p :: l, f, fn, h => by
    unfold codeOf at h
    split at h
    · cases h; exact ⟨p, List.mem_cons_self .., rfl⟩
    · obtain ⟨q, h1, h2⟩ := codeOf_mem h
      exact ⟨q, List.mem_cons_of_mem _ h1, h2⟩
def insChk (l : List (FuncId × FnD)) (G : FuncId) (T : TypeId) : Bool :=
  l.all fun p => p.2.cv.all fun c => match c.2 with | .own t => decide (c.1 < 1000000) || (decide (c.1 = 1000000 + G) && decide (t = T)) | _ => true
theorem insChk_ok {l : List (FuncId × FnD)} {G : FuncId} {T : TypeId} (h : insChk l G T = true) {f : FuncId} {fn : FnD} (hf : codeOf l f = some fn) {g : FuncId} {e : TypeId} (hg : insOf fn.cv g = some e) : g = G ∧ e = T := by
  obtain ⟨p, hp, rfl⟩ := codeOf_mem hf
  have h1 := List.all_eq_true.1 (List.all_eq_true.1 h p hp) _ (insOf_mem hg)
  simp only [Bool.or_eq_true, Bool.and_eq_true, decide_eq_true_eq] at h1
  rcases h1 with h1 | ⟨h1, h2⟩
  · exact absurd h1 (Nat.not_lt.2 (Nat.le_add_right _ _))
  · exact ⟨Nat.add_left_cancel h1, h2⟩
end Go.Ab

/- slices.Insert of this seat's translation is the one of the library's contract. No condition. -/
set_option linter.unusedVariables false
set_option maxRecDepth 100000
namespace Go.Proofs.YtjhganbjbiihoaaDoor.Ab
open Go Go.Ab Go.Proofs
def insRen : Go.Shelf.Ren := ⟨fun | 21 => 66 | 27 => 97 | 28 => 98 | 35 => 114 | 39 => 118 | n => n, fun | 0 => 0 | 3 => 3 | 4 => 4 | 22 => 33 | n => n, fun | n => n⟩
theorem insLays : Go.Proofs.Lays2.n21 Tryd.prog insRen := {
  mixed := by kernel_rfl
  f21 := Tryd.func66.trans (congrArg some (by kernel_rfl))
  f27 := Tryd.func97.trans (congrArg some (by kernel_rfl))
  f28 := Tryd.func98.trans (congrArg some (by kernel_rfl))
  f35 := Tryd.func114.trans (congrArg some (by kernel_rfl))
  f39 := Tryd.func118.trans (congrArg some (by kernel_rfl))
  t0 := Tryd.underlying0
  a0 := Tryd.isAgg0
  z0 := Tryd.sizeOf0
  v0 := Tryd.zeroValue0
  t3 := Tryd.underlying3
  a3 := Tryd.isAgg3
  z3 := Tryd.sizeOf3
  v3 := Tryd.zeroValue3
  t4 := Tryd.underlying4
  a4 := Tryd.isAgg4
  z4 := Tryd.sizeOf4
  v4 := Tryd.zeroValue4
  t22 := Tryd.underlying33
  a22 := Tryd.isAgg33
  z22 := Tryd.sizeOf33
  v22 := Tryd.zeroValue33
  i3 := by kernel_rfl }
theorem insOk : InsOk Tryd.prog 66 3 := ins_ok insLays
theorem insFn : FnOk Tryd.prog 66 := ⟨_, Tryd.func66, by kernel_rfl, by kernel_rfl⟩
/-- Wherever a function of the table marks Insert, it is this one, of whole numbers. -/
theorem insAll (f : FuncId) (fn : FnD) (hf : codeOf code f = some fn) (g : FuncId) (e : TypeId) (hg : insOf fn.cv g = some e) : InsOk Tryd.prog g e ∧ FnOk Tryd.prog g := by
  have h1 : insChk code 66 3 = true := by kernel_rfl
  obtain ⟨rfl, rfl⟩ := insChk_ok h1 hf hg
  exact ⟨insOk, insFn⟩
end Go.Proofs.YtjhganbjbiihoaaDoor.Ab
