/- Tables of facts: that the program and the document tell the same. Plain lists; no condition. -/
import Derived.Test.YtckhlalpnginjaaDoorFactSet0
import Derived.Test.YtckhlalpnginjaaDoorFactSet1
import Derived.Test.YtckhlalpnginjaaDoorFactSet2
import Derived.Test.YtckhlalpnginjaaDoorFactSet3
import Derived.Test.YtckhlalpnginjaaDoorFactSet4
import Derived.Test.YtckhlalpnginjaaDoorFactSet5
import Derived.Test.YtckhlalpnginjaaDoorFactSet6
import Derived.Test.YtckhlalpnginjaaDoorFactSet7
import Derived.Test.YtckhlalpnginjaaDoorFactSet8
import Derived.Test.YtckhlalpnginjaaDoorFactSet9
import Derived.Test.YtckhlalpnginjaaDoorFactSet10
import Derived.Test.YtckhlalpnginjaaDoorFactSet11
import Derived.Test.YtckhlalpnginjaaDoorFactSet12
set_option linter.unusedVariables false
set_option linter.unusedSimpArgs false
namespace Go.Qu
open Go Go.Ab

theorem probe_step (h j : Nat) : (probe h j + 1) % 32 = probe h (j + 1) := by unfold probe; omega
theorem probe_inj {h m m' : Nat} (hm : m < 32) (hm' : m' < 32) (he : probe h m = probe h m') : m = m' := by unfold probe at he; omega
theorem probe_onto (h : Nat) {i : Nat} (hi : i < 32) : ∃ m, m < 32 ∧ probe h m = i := ⟨(i + 32 - h % 32) % 32, Nat.mod_lt _ (by omega), by unfold probe; omega⟩
def cnt (l : List Int) : Nat := l.countP fun x => decide (0 ≤ x)
theorem cnt_mid (s t : List Int) {x : Int} (hx : 0 ≤ x) : cnt (s ++ x :: t) = cnt (s ++ t) + 1 := by
  simp [cnt, List.countP_append, List.countP_cons, hx]; omega
def Inj (l : List Int) : Prop := ∀ x, 0 ≤ x → l.count x ≤ 1
theorem covers_le : ∀ (n : Nat) (l : List Int), (∀ k : Nat, k < n → (k : Int) ∈ l) → n ≤ cnt l
  | 0, l, h => Nat.zero_le _
  | n + 1, l, h => by
    obtain ⟨s, t, rfl⟩ := List.append_of_mem (h n (Nat.lt_succ_self n))
    have := covers_le n (s ++ t) (fun k hk => by
      have h1 := h k (by omega)
      simp only [List.mem_append, List.mem_cons] at h1 ⊢
      rcases h1 with h1 | h1 | h1
      · exact .inl h1
      · omega
      · exact .inr h1)
    rw [cnt_mid s t (by omega)]
    omega
theorem inj_of {n : Nat} {l : List Int} (hc : cnt l = n) (hk : ∀ k : Nat, k < n → (k : Int) ∈ l) : Inj l := by
  intro x hx
  by_cases hm : x ∈ l
  · obtain ⟨s, t, rfl⟩ := List.append_of_mem hm
    by_cases h2 : x ∈ s ++ t
    · have := covers_le n (s ++ t) (fun k hk' => by
        have h1 := hk k hk'
        simp only [List.mem_append, List.mem_cons] at h1 h2 ⊢
        rcases h1 with h1 | h1 | h1
        · exact .inl h1
        · rw [h1]; exact h2
        · exact .inr h1)
      rw [cnt_mid s t hx] at hc
      omega
    · have h3 := List.count_eq_zero_of_not_mem h2
      simp only [List.count_append, List.count_cons_self] at h3 ⊢
      omega
  · rw [List.count_eq_zero_of_not_mem hm]; omega
theorem cnt_le : ∀ (n : Nat) (l : List Int), (∀ x ∈ l, x < n) → Inj l → cnt l ≤ n
  | 0, l, h, hi => by
    have : cnt l = 0 := by
      unfold cnt
      rw [List.countP_eq_zero]
      intro x hx
      have := h x hx
      simp; omega
    omega
  | n + 1, l, h, hi => by
    by_cases hm : (n : Int) ∈ l
    · obtain ⟨s, t, rfl⟩ := List.append_of_mem hm
      have h1 := hi n (by omega)
      simp only [List.count_append, List.count_cons_self] at h1
      have := cnt_le n (s ++ t) (fun x hx => by
        have h2 := h x (by simp only [List.mem_append, List.mem_cons] at hx ⊢; rcases hx with hx | hx; exact .inl hx; exact .inr (.inr hx))
        have h3 : x ≠ n := fun e => by
          subst e
          have := List.count_pos_iff.2 hx
          rw [List.count_append] at this
          omega
        omega) (fun x hx => by
        have h2 := hi x hx
        rw [List.count_append, List.count_cons] at h2
        rw [List.count_append]
        omega)
      rw [cnt_mid s t (by omega)]
      omega
    · have := cnt_le n l (fun x hx => by
        have h2 := h x hx
        have h3 : x ≠ n := fun e => hm (e ▸ hx)
        omega) hi
      omega
theorem covers_of {n : Nat} {l : List Int} (hr : ∀ x ∈ l, x < n) (hi : Inj l) (hc : cnt l = n) (k : Nat) (hk : k < n) : (k : Int) ∈ l := by
  by_cases hm : (k : Int) ∈ l
  · exact hm
  · have := cnt_le n ((k : Int) :: l) (fun x hx => by
      rcases List.mem_cons.1 hx with rfl | hx
      · omega
      · exact hr x hx) (fun x hx => by
      rw [List.count_cons]
      by_cases he : (k : Int) = x
      · subst he
        rw [List.count_eq_zero_of_not_mem hm]; simp
      · have := hi x hx
        simp [he]; omega)
    have h2 := cnt_mid [] l (x := (k : Int)) (by omega)
    simp only [List.nil_append] at h2
    omega
theorem mem_gi {l : List Int} {x : Int} (h : x ∈ l) : ∃ i, i < l.length ∧ gi l i = x := by
  obtain ⟨i, hi, he⟩ := List.getElem_of_mem h
  exact ⟨i, hi, by simp [gi, hi, he]⟩
theorem inj_gi {l : List Int} (hi : Inj l) {i j : Nat} (h1 : i < l.length) (h2 : j < l.length) (hx : 0 ≤ gi l i) (he : gi l i = gi l j) : i = j := by
  have key : ∀ i j, i < j → j < l.length → 0 ≤ gi l i → gi l i = gi l j → False := fun i j hij hj hx he => by
    have h3 : l = l.take i ++ gi l i :: l.drop (i + 1) := by rw [← gi_drop (by omega), List.take_append_drop]
    have h4 : gi l j ∈ l.drop (i + 1) := by
      rw [List.mem_drop_iff_getElem]
      refine ⟨j - (i + 1), by omega, ?_⟩
      simp only [show i + 1 + (j - (i + 1)) = j by omega]
      simp [gi, hj]
    have h5 := hi _ hx
    have h6 := List.count_pos_iff.2 h4
    rw [← he] at h6
    have h7 : l.count (gi l i) = (l.take i).count (gi l i) + ((l.drop (i + 1)).count (gi l i) + 1) := by
      conv => lhs; arg 2; rw [h3]
      rw [List.count_append, List.count_cons_self]
    omega
  rcases Nat.lt_trichotomy i j with h | h | h
  · exact (key i j h h2 hx he).elim
  · exact h
  · exact (key j i h h1 (by rw [← he]; exact hx) he.symm).elim
theorem gi_inj {l : List Int} (h : ∀ i j, i < l.length → j < l.length → 0 ≤ gi l i → gi l i = gi l j → i = j) : Inj l := by
  intro x hx
  by_cases hm : x ∈ l
  · obtain ⟨i, hi, he⟩ := mem_gi hm
    have h3 : l = l.take i ++ gi l i :: l.drop (i + 1) := by rw [← gi_drop hi, List.take_append_drop]
    have h4 : x ∉ l.take i := fun hk => by
      obtain ⟨j, hj, hje⟩ := List.getElem_of_mem hk
      simp at hj
      have h5 : gi l j = x := by rw [← hje]; simp [gi, show j < l.length by omega]
      have := h j i (by omega) hi (by omega) (by omega)
      omega
    have h5 : x ∉ l.drop (i + 1) := fun hk => by
      obtain ⟨j, hj, hje⟩ := List.getElem_of_mem hk
      simp at hj
      have h5 : gi l (i + 1 + j) = x := by rw [← hje]; simp [gi, show i + 1 + j < l.length by omega]
      have := h (i + 1 + j) i (by omega) hi (by omega) (by omega)
      omega
    rw [h3, he, List.count_append, List.count_cons_self, List.count_eq_zero_of_not_mem h4, List.count_eq_zero_of_not_mem h5]
    omega
  · rw [List.count_eq_zero_of_not_mem hm]; omega
theorem slotsF_iff {n : Nat} : ∀ (l : List Int) (seen : List Bool) (k : Nat), seen.length = n → (slotsF n l seen k = true ↔ (∀ x ∈ l, x = -1 ∨ x = -2 ∨ (0 ≤ x ∧ x < n ∧ seen[x.toNat]? ≠ some true)) ∧ Inj l ∧ k + cnt l = n)
  | [], seen, k, hs => by simp [slotsF, Inj, cnt]
  | y :: l, seen, k, hs => by
    unfold slotsF
    have hcons : ∀ x : Int, (y :: l).count x = l.count x + if y = x then 1 else 0 := fun x => by rw [List.count_cons]; simp
    by_cases h1 : y = -1 ∨ y = -2
    · rw [if_pos h1, slotsF_iff l seen k hs]
      have hc : cnt (y :: l) = cnt l := by unfold cnt; rw [List.countP_cons]; rcases h1 with rfl | rfl <;> simp
      rw [hc]
      constructor
      · rintro ⟨h2, h3, h4⟩
        refine ⟨fun x hx => ?_, fun x hx => ?_, h4⟩
        · rcases List.mem_cons.1 hx with rfl | hx
          · rcases h1 with h1 | h1
            · exact .inl h1
            · exact .inr (.inl h1)
          · exact h2 x hx
        · rw [hcons, if_neg (by omega)]; exact h3 x hx
      · rintro ⟨h2, h3, h4⟩
        exact ⟨fun x hx => h2 x (List.mem_cons_of_mem _ hx), fun x hx => by have := h3 x hx; rw [hcons] at this; omega, h4⟩
    · rw [if_neg h1]
      by_cases h2 : y < 0 ∨ (n : Int) ≤ y ∨ seen[y.toNat]? = some true
      · rw [if_pos h2]
        constructor
        · intro h; cases h
        · rintro ⟨h3, _, _⟩
          rcases h3 y (by simp) with h4 | h4 | ⟨h4, h5, h6⟩
          · exact (h1 (.inl h4)).elim
          · exact (h1 (.inr h4)).elim
          · rcases h2 with h2 | h2 | h2
            · omega
            · omega
            · exact (h6 h2).elim
      · rw [if_neg h2, slotsF_iff l (seen.set y.toNat true) (k + 1) (by simp [hs])]
        have hy0 : 0 ≤ y := by omega
        have hyn : y < n := by omega
        have hseen : seen[y.toNat]? ≠ some true := fun h => h2 (.inr (.inr h))
        have hc : cnt (y :: l) = cnt l + 1 := by have := cnt_mid [] l hy0; simpa using this
        rw [hc]
        constructor
        · rintro ⟨h3, h4, h5⟩
          have hnot : y ∉ l := fun hm => by
            rcases h3 y hm with h6 | h6 | ⟨_, _, h6⟩
            · omega
            · omega
            · apply h6
              rw [List.getElem?_set_self (by omega)]
          refine ⟨fun x hx => ?_, fun x hx => ?_, by omega⟩
          · rcases List.mem_cons.1 hx with rfl | hx
            · exact .inr (.inr ⟨hy0, hyn, hseen⟩)
            · rcases h3 x hx with h6 | h6 | ⟨h6, h7, h8⟩
              · exact .inl h6
              · exact .inr (.inl h6)
              · refine .inr (.inr ⟨h6, h7, ?_⟩)
                have hne : y ≠ x := fun e => hnot (e ▸ hx)
                rwa [List.getElem?_set_ne (by omega)] at h8
          · rw [hcons]
            split
            · rename_i e; subst e
              rw [List.count_eq_zero_of_not_mem hnot]; omega
            · have := h4 x hx; omega
        · rintro ⟨h3, h4, h5⟩
          have hnot : y ∉ l := fun hm => by
            have h6 := h4 y hy0
            have h7 := List.count_pos_iff.2 hm
            rw [hcons, if_pos rfl] at h6
            omega
          refine ⟨fun x hx => ?_, fun x hx => ?_, by omega⟩
          · rcases h3 x (List.mem_cons_of_mem _ hx) with h6 | h6 | ⟨h6, h7, h8⟩
            · exact .inl h6
            · exact .inr (.inl h6)
            · refine .inr (.inr ⟨h6, h7, ?_⟩)
              have hne : y ≠ x := fun e => hnot (e ▸ hx)
              rwa [List.getElem?_set_ne (by omega)]
          · have := h4 x hx; rw [hcons] at this; omega
theorem taken_cnt : ∀ (l : List Int) (k : Nat), takenF l k = k + cnt l
  | [], k => by simp [takenF, cnt]
  | x :: l, k => by
    unfold takenF
    rw [taken_cnt l]
    by_cases h : 0 ≤ x
    · have := cnt_mid [] l h
      simp only [List.nil_append] at this
      rw [if_pos h, this]; omega
    · rw [if_neg h]
      unfold cnt
      rw [List.countP_cons]; simp [h]
/-- What may be a table. -/
structure TblOk (g : List Sym) (sl : List Int) (fs : List (List Int)) : Prop where
  sg : sigB g = true
  len : sl.length = 32
  most : fs.length ≤ 24
  rng : ∀ x ∈ sl, x = -1 ∨ x = -2 ∨ (0 ≤ x ∧ x < fs.length)
  inj : Inj sl
  fact : ∀ a ∈ fs, factB g a = true
  dist : ∀ (i j : Nat) (a : List Int), fs[i]? = some a → fs[j]? = some a → i = j
  road : ∀ (k : Nat) (a : List Int), fs[k]? = some a → ∃ m, m < 32 ∧ gi sl (probe (hashM a).toNat m) = k ∧ ∀ m', m' < m → gi sl (probe (hashM a).toNat m') ≠ -1
theorem slotF_hit {sl : List Int} {fs : List (List Int)} {a : List Int} {h : Nat} : ∀ (n j m : Nat), j ≤ m → m < j + n → 0 ≤ gi sl (probe h m) → fs[(gi sl (probe h m)).toNat]? = some a → (∀ m', j ≤ m' → m' < m → gi sl (probe h m') ≠ -1 ∧ ¬ (0 ≤ gi sl (probe h m') ∧ fs[(gi sl (probe h m')).toNat]? = some a)) → slotF sl fs a h n j = (probe h m : Int)
  | 0, j, m, h1, h2, _, _, _ => by omega
  | n + 1, j, m, h1, h2, h3, h4, h5 => by
    unfold slotF
    by_cases hj : j = m
    · subst hj
      rw [if_neg (by omega), if_pos ⟨h3, h4⟩]
    · have := h5 j (Nat.le_refl _) (by omega)
      rw [if_neg this.1, if_neg this.2]
      exact slotF_hit n (j + 1) m (by omega) (by omega) h3 h4 (fun m' h6 h7 => h5 m' (by omega) h7)
theorem slotF_is {sl : List Int} {fs : List (List Int)} {a : List Int} {h : Nat} : ∀ (n j : Nat), 0 ≤ slotF sl fs a h n j → ∃ m, j ≤ m ∧ m < j + n ∧ slotF sl fs a h n j = (probe h m : Int) ∧ 0 ≤ gi sl (probe h m) ∧ fs[(gi sl (probe h m)).toNat]? = some a ∧ ∀ m', j ≤ m' → m' < m → gi sl (probe h m') ≠ -1
  | 0, j, h1 => by simp [slotF] at h1
  | n + 1, j, h1 => by
    unfold slotF at h1 ⊢
    split at h1
    · omega
    · rename_i hne
      split at h1
      · rename_i hx
        exact ⟨j, Nat.le_refl _, by omega, by rw [if_neg hne, if_pos hx], hx.1, hx.2, fun m' h2 h3 => by omega⟩
      · rename_i hx
        obtain ⟨m, h2, h3, h4, h5, h6, h7⟩ := slotF_is n (j + 1) h1
        refine ⟨m, by omega, by omega, by rw [if_neg hne, if_neg hx]; exact h4, h5, h6, fun m' h8 h9 => ?_⟩
        by_cases hj : m' = j
        · subst hj; exact hne
        · exact h7 m' (by omega) h9
theorem TblOk.slot {g : List Sym} {sl : List Int} {fs : List (List Int)} (t : TblOk g sl fs) {k : Nat} {a : List Int} (ha : fs[k]? = some a) : ∃ m, m < 32 ∧ slotM sl fs a = (probe (hashM a).toNat m : Int) ∧ gi sl (probe (hashM a).toNat m) = k := by
  obtain ⟨m, h1, h2, h3⟩ := t.road k a ha
  refine ⟨m, h1, ?_, h2⟩
  refine slotF_hit 32 0 m (Nat.zero_le _) (by omega) (by omega) (by rw [h2]; simpa using ha) (fun m' _ h5 => ⟨h3 m' h5, fun h6 => ?_⟩)
  have h7 := t.dist _ _ _ h6.2 ha
  have h8 : probe (hashM a).toNat m' = probe (hashM a).toNat m := inj_gi t.inj (by rw [t.len]; exact Nat.mod_lt _ (by omega)) (by rw [t.len]; exact Nat.mod_lt _ (by omega)) h6.1 (by omega)
  have := probe_inj (by omega) h1 h8
  omega
theorem tblB_ok {g : List Sym} {sl : List Int} {fs : List (List Int)} : tblB g sl fs = true ↔ TblOk g sl fs := by
  constructor
  · intro h
    simp only [tblB, Bool.and_eq_true, decide_eq_true_eq] at h
    obtain ⟨h1, h2, h3, h4, h5, h6⟩ := h
    have h7 := (slotsF_iff sl (List.replicate fs.length false) 0 (by simp)).1 h4
    have hs : ∀ (i : Nat) (a : List Int), fs[i]? = some a → 0 ≤ slotM sl fs a ∧ gi sl (slotM sl fs a).toNat = i := fun i a ha => by
      have := List.all_eq_true.1 h6 i (List.mem_range.2 (lt_at ha))
      rw [ha] at this
      simpa using this
    refine ⟨h1, h2, h3, fun x hx => ?_, h7.2.1, fun a ha => List.all_eq_true.1 h5 a ha, fun i j a hi hj => ?_, fun k a ha => ?_⟩
    · rcases h7.1 x hx with h | h | h
      · exact .inl h
      · exact .inr (.inl h)
      · exact .inr (.inr ⟨h.1, h.2.1⟩)
    · have e1 := (hs i a hi).2
      have e2 := (hs j a hj).2
      omega
    · have e1 := hs k a ha
      obtain ⟨m, m1, m2, m3, m4, m5, m6⟩ := slotF_is 32 0 e1.1
      refine ⟨m, by omega, ?_, fun m' hm' => m6 m' (Nat.zero_le _) hm'⟩
      have e2 := e1.2
      unfold slotM at e2
      rw [m3] at e2
      simpa using e2
  · intro t
    have hcov : ∀ k : Nat, k < fs.length → (k : Int) ∈ sl := fun k hk => by
      obtain ⟨a, ha⟩ := at_lt hk
      obtain ⟨m, h1, h2, _⟩ := t.road k a ha
      rw [← h2]
      exact gi_mem (by rw [t.len]; exact Nat.mod_lt _ (by omega))
    have hc : cnt sl = fs.length := by
      have h1 := covers_le _ _ hcov
      have h2 := cnt_le fs.length sl (fun x hx => by rcases t.rng x hx with h | h | h <;> omega) t.inj
      omega
    simp only [tblB, Bool.and_eq_true, decide_eq_true_eq]
    refine ⟨t.sg, t.len, t.most, (slotsF_iff sl (List.replicate fs.length false) 0 (by simp)).2 ⟨fun x hx => ?_, t.inj, by omega⟩, List.all_eq_true.2 t.fact, List.all_eq_true.2 fun i hi => ?_⟩
    · rcases t.rng x hx with h | h | h
      · exact .inl h
      · exact .inr (.inl h)
      · refine .inr (.inr ⟨h.1, h.2, ?_⟩)
        rw [List.getElem?_replicate]
        split <;> simp
    · obtain ⟨a, ha⟩ := at_lt (List.mem_range.1 hi)
      obtain ⟨m, h1, h2, h3⟩ := t.slot ha
      rw [ha]
      simp only [Bool.and_eq_true, decide_eq_true_eq, beq_iff_eq]
      rw [h2]
      exact ⟨by omega, by simpa using h3⟩
/-! ### The reference's -/
theorem lastF_is (x : Int) : ∀ (sl : List Int) (i : Nat) (at_ : Int), at_ < i → ((x ∉ sl ∧ lastF x sl i at_ = at_) ∨ ∃ j, j < sl.length ∧ gi sl j = x ∧ lastF x sl i at_ = ((i + j : Nat) : Int))
  | [], i, at_, h => .inl ⟨by simp, rfl⟩
  | y :: sl, i, at_, h => by
    unfold lastF
    rcases lastF_is x sl (i + 1) (if y = x then (i : Int) else at_) (by split <;> omega) with ⟨h1, h2⟩ | ⟨j, h1, h2, h3⟩
    · by_cases hy : y = x
      · rw [if_pos hy] at h2 ⊢
        exact .inr ⟨0, by simp, by simp [gi, hy], by rw [h2]; rfl⟩
      · rw [if_neg hy] at h2 ⊢
        exact .inl ⟨by simp [h1, Ne.symm hy], h2⟩
    · refine .inr ⟨j + 1, by simp; omega, by simpa [gi] using h2, ?_⟩
      rw [h3]
      omega
theorem lastM_is (sl : List Int) (x : Int) : (x ∉ sl ∧ lastM sl x = -1) ∨ ∃ j : Nat, j < sl.length ∧ gi sl j = x ∧ lastM sl x = (j : Int) := by
  rcases lastF_is x sl 0 (-1) (by omega) with h | ⟨j, h1, h2, h3⟩
  · exact .inl h
  · exact .inr ⟨j, h1, h2, by unfold lastM; rw [h3]; simp⟩
theorem whereF_is (a : List Int) : ∀ (fs : List (List Int)) (i : Nat), (a ∉ fs ∧ whereF a fs i = -1) ∨ ∃ j, fs[j]? = some a ∧ whereF a fs i = ((i + j : Nat) : Int) ∧ ∀ k, k < j → fs[k]? ≠ some a
  | [], i => .inl ⟨by simp, rfl⟩
  | b :: fs, i => by
    unfold whereF
    by_cases hb : b = a
    · rw [if_pos hb]
      exact .inr ⟨0, by simp [hb], rfl, fun k hk => by omega⟩
    · rw [if_neg hb]
      rcases whereF_is a fs (i + 1) with ⟨h1, h2⟩ | ⟨j, h1, h2, h3⟩
      · exact .inl ⟨by simp [h1, Ne.symm hb], h2⟩
      · refine .inr ⟨j + 1, by simpa using h1, by rw [h2]; omega, fun k hk => ?_⟩
        cases k with
        | zero => simp [hb]
        | succ k => simpa using h3 k (by omega)
theorem whereM_is (fs : List (List Int)) (a : List Int) : (a ∉ fs ∧ whereM fs a = -1) ∨ ∃ j : Nat, fs[j]? = some a ∧ whereM fs a = (j : Int) ∧ ∀ k, k < j → fs[k]? ≠ some a := by
  rcases whereF_is a fs 0 with h | ⟨j, h1, h2, h3⟩
  · exact .inl h
  · exact .inr ⟨j, h1, by unfold whereM; rw [h2]; simp, h3⟩
theorem roadF_no {sl : List Int} {h at_ m : Nat} (hm : m < 32) (he : probe h m = at_) : ∀ (n j : Nat), j ≤ m → m < j + n → roadF sl at_ n (probe h j) = true → ∀ m', j ≤ m' → m' < m → gi sl (probe h m') ≠ -1
  | 0, j, h1, h2, h3, m', h4, h5 => by omega
  | n + 1, j, h1, h2, h3, m', h4, h5 => by
    unfold roadF at h3
    rw [if_neg (fun e => by have := probe_inj (by omega) hm (e.trans he.symm); omega)] at h3
    split at h3
    · cases h3
    · rename_i hf
      rw [probe_step] at h3
      by_cases hj : m' = j
      · subst hj; exact hf
      · exact roadF_no hm he n (j + 1) (by omega) (by omega) h3 m' (by omega) h5
theorem roadF_yes {sl : List Int} {h at_ m : Nat} (he : probe h m = at_) : ∀ (n j : Nat), j ≤ m → m < j + n → (∀ m', j ≤ m' → m' < m → gi sl (probe h m') ≠ -1) → roadF sl at_ n (probe h j) = true
  | 0, j, h1, h2, h3 => by omega
  | n + 1, j, h1, h2, h3 => by
    unfold roadF
    split
    · rfl
    · rename_i hne
      have hj : j ≠ m := fun e => hne (e ▸ he)
      rw [if_neg (h3 j (Nat.le_refl _) (by omega)), probe_step]
      exact roadF_yes he n (j + 1) (by omega) (by omega) (fun m' h4 h5 => h3 m' (by omega) h5)
theorem rtblB_ok {g : List Sym} {sl : List Int} {fs : List (List Int)} : rtblB g sl fs = true ↔ TblOk g sl fs := by
  constructor
  · intro h
    simp only [rtblB, Bool.and_eq_true, decide_eq_true_eq, beq_iff_eq] at h
    obtain ⟨h1, h2, h3, h4, h5, h6⟩ := h
    have he : ∀ (k : Nat) (a : List Int), fs[k]? = some a → factB g a = true ∧ whereM fs a = k ∧ 0 ≤ lastM sl k ∧ roadF sl (lastM sl k).toNat 32 ((hashM a).toNat % 32) = true := fun k a ha => by
      have := List.all_eq_true.1 h6 k (List.mem_range.2 (lt_at ha))
      simp only [eachB, ha, Bool.and_eq_true, decide_eq_true_eq, beq_iff_eq] at this
      exact this
    have hl : ∀ (k : Nat) (a : List Int), fs[k]? = some a → ∃ j, j < 32 ∧ gi sl j = k ∧ lastM sl k = (j : Int) := fun k a ha => by
      rcases lastM_is sl (k : Int) with ⟨_, h7⟩ | ⟨j, h7, h8, h9⟩
      · have := (he k a ha).2.2.1; omega
      · exact ⟨j, by omega, h8, h9⟩
    have hcov : ∀ k : Nat, k < fs.length → (k : Int) ∈ sl := fun k hk => by
      obtain ⟨a, ha⟩ := at_lt hk
      obtain ⟨j, h7, h8, _⟩ := hl k a ha
      rw [← h8]; exact gi_mem (by omega)
    refine ⟨h1, h2, h3, fun x hx => ?_, inj_of (by rw [taken_cnt] at h5; omega) hcov, fun a ha => ?_, fun i j a hi hj => ?_, fun k a ha => ?_⟩
    · have := List.all_eq_true.1 h4 x hx
      simp at this
      omega
    · obtain ⟨k, hk, rfl⟩ := List.getElem_of_mem ha
      exact (he k _ (by simp [hk])).1
    · have e1 := (he i a hi).2.1
      have e2 := (he j a hj).2.1
      omega
    · obtain ⟨j, j1, j2, j3⟩ := hl k a ha
      obtain ⟨m, m1, m2⟩ := probe_onto (hashM a).toNat j1
      have hr := (he k a ha).2.2.2
      rw [j3] at hr
      have h7 : (hashM a).toNat % 32 = probe (hashM a).toNat 0 := rfl
      rw [h7] at hr
      exact ⟨m, m1, by rw [m2]; exact j2, fun m' hm' => roadF_no m1 (by rw [m2]; simp) 32 0 (Nat.zero_le _) (by omega) hr m' (Nat.zero_le _) hm'⟩
  · intro t
    have hcov : ∀ k : Nat, k < fs.length → (k : Int) ∈ sl := fun k hk => by
      obtain ⟨a, ha⟩ := at_lt hk
      obtain ⟨m, h1, h2, _⟩ := t.road k a ha
      rw [← h2]
      exact gi_mem (by rw [t.len]; exact Nat.mod_lt _ (by omega))
    have hc : cnt sl = fs.length := by
      have h1 := covers_le _ _ hcov
      have h2 := cnt_le fs.length sl (fun x hx => by rcases t.rng x hx with h | h | h <;> omega) t.inj
      omega
    simp only [rtblB, Bool.and_eq_true, decide_eq_true_eq, beq_iff_eq]
    refine ⟨t.sg, t.len, t.most, List.all_eq_true.2 fun x hx => ?_, by rw [taken_cnt]; omega, List.all_eq_true.2 fun k hk => ?_⟩
    · rcases t.rng x hx with h | h | h <;> simp <;> omega
    · obtain ⟨a, ha⟩ := at_lt (List.mem_range.1 hk)
      obtain ⟨m, h1, h2, h3⟩ := t.road k a ha
      have hp : probe (hashM a).toNat m < sl.length := by rw [t.len]; exact Nat.mod_lt _ (by omega)
      have hlast : lastM sl k = (probe (hashM a).toNat m : Int) := by
        rcases lastM_is sl (k : Int) with ⟨h7, _⟩ | ⟨j, h7, h8, h9⟩
        · exact (h7 (h2 ▸ gi_mem hp)).elim
        · rw [h9, inj_gi t.inj h7 hp (by omega) (by omega)]
      have hwh : whereM fs a = k := by
        rcases whereM_is fs a with ⟨h7, _⟩ | ⟨j, h7, h8, _⟩
        · exact (h7 (List.mem_of_getElem? ha)).elim
        · rw [h8, t.dist _ _ _ h7 ha]
      simp only [eachB, ha, Bool.and_eq_true, decide_eq_true_eq, beq_iff_eq]
      refine ⟨t.fact a (List.mem_of_getElem? ha), hwh, by rw [hlast]; omega, ?_⟩
      rw [hlast]
      exact roadF_yes (h := (hashM a).toNat) (m := m) (Int.toNat_natCast _).symm 32 0 (Nat.zero_le _) (by omega) (fun m' _ hm' => h3 m' hm')
theorem tbl_same (g : List Sym) (sl : List Int) (fs : List (List Int)) : rtblB g sl fs = tblB g sl fs := by
  rw [Bool.eq_iff_iff, rtblB_ok, tblB_ok]
theorem TblOk.has {g : List Sym} {sl : List Int} {fs : List (List Int)} (t : TblOk g sl fs) (a : List Int) : 0 ≤ slotM sl fs a ↔ a ∈ fs := by
  constructor
  · intro h
    obtain ⟨m, _, _, _, _, h5, _⟩ := slotF_is 32 0 h
    exact List.mem_of_getElem? h5
  · intro h
    obtain ⟨k, hk, rfl⟩ := List.getElem_of_mem h
    obtain ⟨m, _, h2, _⟩ := t.slot (k := k) (a := fs[k]) (by simp [hk])
    rw [h2]; omega
theorem where_has (fs : List (List Int)) (a : List Int) : 0 ≤ whereM fs a ↔ a ∈ fs := by
  rcases whereM_is fs a with ⟨h1, h2⟩ | ⟨j, h1, h2, _⟩
  · rw [h2]; simp [h1]
  · rw [h2]; simp [List.mem_of_getElem? h1]
theorem has_same (g : List Sym) (sl : List Int) (fs : List (List Int)) (a : List Int) : ((tblB g sl fs && factB g a) && decide (0 ≤ slotM sl fs a)) = ((rtblB g sl fs && factB g a) && decide (0 ≤ whereM fs a)) := by
  rw [tbl_same]
  cases ht : tblB g sl fs
  · simp
  · have := (tblB_ok.1 ht).has a
    rw [show (decide (0 ≤ slotM sl fs a)) = decide (0 ≤ whereM fs a) by rw [decide_eq_decide, this, where_has]]
end Go.Qu

/- Tables of facts: put in, taken out, spoilt. Plain lists; no condition. -/
set_option linter.unusedVariables false
set_option linter.unusedSimpArgs false
namespace Go.Qu
open Go Go.Ab

theorem probe_lt32 (h k : Nat) : probe h k < 32 := Nat.mod_lt _ (by omega)
theorem gi_set {l : List Int} {i : Nat} (x : Int) (j : Nat) (hi : i < l.length) : gi (l.set i x) j = if i = j then x else gi l j := by
  simp only [gi, List.getD_eq_getElem?_getD, List.getElem?_set]
  by_cases h : i = j
  · subst h; simp [hi]
  · simp [h]
section
variable {g : List Sym} {sl : List Int} {fs : List (List Int)}
theorem TblOk.at_ (t : TblOk g sl fs) {i : Nat} (hi : i < 32) : gi sl i = -1 ∨ gi sl i = -2 ∨ (0 ≤ gi sl i ∧ gi sl i < fs.length) := t.rng _ (gi_mem (by rw [t.len]; exact hi))
theorem TblOk.uniq (t : TblOk g sl fs) {i j : Nat} (hi : i < 32) (hj : j < 32) (h0 : 0 ≤ gi sl i) (he : gi sl i = gi sl j) : i = j := inj_gi t.inj (by rw [t.len]; exact hi) (by rw [t.len]; exact hj) h0 he
theorem tbl_mk (sg : sigB g = true) (len : sl.length = 32) (most : fs.length ≤ 24) (h1 : ∀ i, i < 32 → gi sl i = -1 ∨ gi sl i = -2 ∨ (0 ≤ gi sl i ∧ gi sl i < fs.length)) (h2 : ∀ i j, i < 32 → j < 32 → 0 ≤ gi sl i → gi sl i = gi sl j → i = j)
    (fact : ∀ a ∈ fs, factB g a = true) (dist : ∀ (i j : Nat) (a : List Int), fs[i]? = some a → fs[j]? = some a → i = j) (road : ∀ (k : Nat) (a : List Int), fs[k]? = some a → ∃ m, m < 32 ∧ gi sl (probe (hashM a).toNat m) = k ∧ ∀ m', m' < m → gi sl (probe (hashM a).toNat m') ≠ -1) : TblOk g sl fs := by
  refine ⟨sg, len, most, fun x hx => ?_, gi_inj fun i j hi hj => h2 i j (by omega) (by omega), fact, dist, road⟩
  obtain ⟨i, hi, rfl⟩ := mem_gi hx
  exact h1 i (by omega)
/-- What is put in: the table is one. -/
theorem put_tbl (t : TblOk g sl fs) {a : List Int} (ha : factB g a = true) (hn : a ∉ fs) (hl : fs.length < 24) {m : Nat} (hm : m < 32) (h1 : gi sl (probe (hashM a).toNat m) < 0) (h2 : ∀ m', m' < m → 0 ≤ gi sl (probe (hashM a).toNat m')) : TblOk g (sl.set (probe (hashM a).toNat m) fs.length) (fs ++ [a]) := by
  have hq := probe_lt32 (hashM a).toNat m
  have hs : ∀ j, gi (sl.set (probe (hashM a).toNat m) fs.length) j = if probe (hashM a).toNat m = j then (fs.length : Int) else gi sl j := fun j => gi_set _ _ (by rw [t.len]; exact hq)
  refine tbl_mk t.sg (by rw [List.length_set]; exact t.len) (by simp; omega) (fun i hi => ?_) (fun i j hi hj h0 he => ?_) (fun x hx => ?_) (fun i j x hi hj => ?_) (fun k x hk => ?_)
  · rw [hs i]
    have := t.at_ hi
    split <;> simp <;> omega
  · rw [hs i] at h0
    rw [hs i, hs j] at he
    have ri := t.at_ hi
    have rj := t.at_ hj
    by_cases e1 : probe (hashM a).toNat m = i
    · by_cases e2 : probe (hashM a).toNat m = j
      · omega
      · rw [if_pos e1, if_neg e2] at he; omega
    · by_cases e2 : probe (hashM a).toNat m = j
      · rw [if_neg e1, if_pos e2] at he; omega
      · rw [if_neg e1, if_neg e2] at he
        rw [if_neg e1] at h0
        exact t.uniq hi hj h0 he
  · rcases List.mem_append.1 hx with hx | hx
    · exact t.fact x hx
    · simp at hx; subst hx; exact ha
  · have hm : ∀ {i : Nat} {x : List Int}, (fs ++ [a])[i]? = some x → (i < fs.length ∧ fs[i]? = some x) ∨ (i = fs.length ∧ x = a) := fun {i x} h => by
      by_cases hi : i < fs.length
      · rw [List.getElem?_append_left hi] at h; exact .inl ⟨hi, h⟩
      · rw [List.getElem?_append_right (by omega)] at h
        have hz : i - fs.length = 0 := by
          have := lt_at h; simp at this; omega
        rw [hz] at h
        simp at h
        exact .inr ⟨by omega, h.symm⟩
    rcases hm hi with ⟨h3, h4⟩ | ⟨h3, h4⟩ <;> rcases hm hj with ⟨h5, h6⟩ | ⟨h5, h6⟩
    · exact t.dist i j x h4 h6
    · subst h6; exact absurd (List.mem_of_getElem? h4) hn
    · subst h4; exact absurd (List.mem_of_getElem? h6) hn
    · omega
  · by_cases hkl : k < fs.length
    · rw [List.getElem?_append_left hkl] at hk
      obtain ⟨m0, r1, r2, r3⟩ := t.road k x hk
      refine ⟨m0, r1, ?_, fun m' hm' => ?_⟩
      · rw [hs, if_neg, r2]
        intro e; rw [e, r2] at h1; omega
      · rw [hs]
        split
        · omega
        · exact r3 m' hm'
    · rw [List.getElem?_append_right (by omega)] at hk
      have hz : k - fs.length = 0 := by
        have := lt_at hk; simp at this; omega
      rw [hz] at hk
      simp at hk
      subst hk
      refine ⟨m, hm, by rw [hs, if_pos rfl]; omega, fun m' hm' => ?_⟩
      rw [hs]
      have := h2 m' hm'
      split <;> omega
/-- What is taken out: the table is one. -/
theorem cut_tbl (t : TblOk g sl fs) {p q r : Nat} {sl' : List Int} {fs' : List (List Int)} (hp : p < fs.length) (hq : q < 32) (hr : r < 32) (gq : gi sl q = p) (gr : gi sl r = ((fs.length - 1 : Nat) : Int)) (hsl : sl'.length = 32) (hfs : fs'.length = fs.length - 1)
    (hs : ∀ i, i < 32 → gi sl' i = if p ≠ fs.length - 1 ∧ i = r then (p : Int) else if i = q then -2 else gi sl i) (hf : ∀ k, k < fs.length - 1 → fs'[k]? = if k = p then fs[fs.length - 1]? else fs[k]?) : TblOk g sl' fs' := by
  have hrq : p = fs.length - 1 → r = q := fun e => t.uniq hr hq (by rw [gr]; omega) (by rw [gq, gr]; omega)
  have back : ∀ {k : Nat} {x : List Int}, fs'[k]? = some x → k < fs.length - 1 ∧ fs[if k = p then fs.length - 1 else k]? = some x := fun {k x} h => by
    have hk : k < fs.length - 1 := by have := lt_at h; omega
    refine ⟨hk, ?_⟩
    rw [hf k hk] at h
    split at h <;> simp_all
  have hm := t.most
  refine tbl_mk t.sg hsl (by omega) (fun i hi => ?_) (fun i j hi hj h0 he => ?_) (fun x hx => ?_) (fun i j x hi hj => ?_) (fun k x hk => ?_)
  · rw [hs i hi, hfs]
    have ri := t.at_ hi
    by_cases e1 : p ≠ fs.length - 1 ∧ i = r
    · rw [if_pos e1]; omega
    rw [if_neg e1]
    by_cases e2 : i = q
    · rw [if_pos e2]; omega
    rw [if_neg e2]
    have hv : 0 ≤ gi sl i → gi sl i ≠ ((fs.length - 1 : Nat) : Int) := fun h0 he => by
      have e3 : i = r := t.uniq hi hr h0 (by rw [he, gr])
      by_cases e4 : p = fs.length - 1
      · exact e2 (by rw [e3, hrq e4])
      · exact e1 ⟨e4, e3⟩
    omega
  · rw [hs i hi] at h0 he
    rw [hs j hj] at he
    by_cases e1 : p ≠ fs.length - 1 ∧ i = r
    · rw [if_pos e1] at he
      by_cases e2 : p ≠ fs.length - 1 ∧ j = r
      · omega
      · rw [if_neg e2] at he
        by_cases e3 : j = q
        · rw [if_pos e3] at he; omega
        · rw [if_neg e3] at he
          exact absurd (t.uniq hj hq (by omega) (by rw [gq]; exact he.symm)) e3
    · rw [if_neg e1] at he h0
      by_cases e3 : i = q
      · rw [if_pos e3] at h0; omega
      rw [if_neg e3] at he h0
      by_cases e2 : p ≠ fs.length - 1 ∧ j = r
      · rw [if_pos e2] at he
        exact absurd (t.uniq hi hq h0 (by rw [gq]; exact he)) e3
      · rw [if_neg e2] at he
        by_cases e4 : j = q
        · rw [if_pos e4] at he; omega
        · rw [if_neg e4] at he
          exact t.uniq hi hj h0 he
  · obtain ⟨k, hk, hkx⟩ := List.getElem_of_mem hx
    have hk2 : fs'[k]? = some x := by rw [List.getElem?_eq_getElem hk, hkx]
    exact t.fact x (List.mem_of_getElem? (back hk2).2)
  · have b1 := back hi
    have b2 := back hj
    have := t.dist _ _ x b1.2 b2.2
    split at this <;> split at this <;> omega
  · have b1 := back hk
    by_cases e1 : k = p
    · rw [if_pos e1] at b1
      obtain ⟨m, r1, r2, r3⟩ := t.road _ x b1.2
      have e2 : probe (hashM x).toNat m = r := t.uniq (probe_lt32 _ _) hr (by rw [r2]; omega) (by rw [r2, gr])
      refine ⟨m, r1, ?_, fun m' hm' => ?_⟩
      · rw [e2, hs r hr, if_pos ⟨by omega, rfl⟩]; omega
      · have := r3 m' hm'
        rw [hs _ (probe_lt32 _ _)]
        split
        · omega
        · split <;> omega
    · rw [if_neg e1] at b1
      obtain ⟨m, r1, r2, r3⟩ := t.road _ x b1.2
      refine ⟨m, r1, ?_, fun m' hm' => ?_⟩
      · rw [hs _ (probe_lt32 _ _), if_neg, if_neg, r2]
        · intro e; rw [e, gq] at r2; omega
        · rintro ⟨_, e⟩; rw [e, gr] at r2; omega
      · have := r3 m' hm'
        rw [hs _ (probe_lt32 _ _)]
        split
        · omega
        · split <;> omega
/-- The facts that are left. -/
def outF (fs : List (List Int)) (p : Nat) : List (List Int) := (fs.set p (fs.getD (fs.length - 1) [])).take (fs.length - 1)
theorem outF_len (fs : List (List Int)) (p : Nat) : (outF fs p).length = fs.length - 1 := by simp [outF]
theorem outF_at {p k : Nat} (hp : p < fs.length) (hk : k < fs.length - 1) : (outF fs p)[k]? = if k = p then fs[fs.length - 1]? else fs[k]? := by
  have h1 : fs.length - 1 < fs.length := by omega
  simp only [outF, List.getElem?_take, List.getElem?_set, hk, if_true]
  by_cases e : p = k
  · subst e; simp [hp, h1]
  · simp [e, Ne.symm e, fun h : k = p => e h.symm]
theorem outF_mem (t : TblOk g sl fs) {p : Nat} {a : List Int} (hp : fs[p]? = some a) (x : List Int) : x ∈ outF fs p ↔ x ∈ fs ∧ x ≠ a := by
  have hpl := lt_at hp
  constructor
  · intro hx
    obtain ⟨k, hk, hkx⟩ := List.getElem_of_mem hx
    have h1 : (outF fs p)[k]? = some x := by rw [List.getElem?_eq_getElem hk, hkx]
    rw [outF_len] at hk
    rw [outF_at hpl hk] at h1
    split at h1
    · refine ⟨List.mem_of_getElem? h1, fun e => ?_⟩
      subst e
      have := t.dist _ _ _ hp h1
      omega
    · rename_i hkp
      refine ⟨List.mem_of_getElem? h1, fun e => ?_⟩
      subst e
      have := t.dist _ _ _ hp h1
      omega
  · rintro ⟨hx, hne⟩
    obtain ⟨k, hk, hkx⟩ := List.getElem_of_mem hx
    have h1 : fs[k]? = some x := by rw [List.getElem?_eq_getElem hk, hkx]
    have hkp : k ≠ p := fun e => by subst e; rw [hp] at h1; cases h1; exact hne rfl
    by_cases hl : k = fs.length - 1
    · have : p < fs.length - 1 := by omega
      refine List.mem_of_getElem? (i := p) ?_
      rw [outF_at hpl this, if_pos rfl, ← hl]; exact h1
    · refine List.mem_of_getElem? (i := k) ?_
      rw [outF_at hpl (by omega), if_neg hkp]; exact h1
theorem outF_last (fs : List (List Int)) (a : List Int) : outF (fs ++ [a]) fs.length = fs := by
  simp [outF]
/-- A slot that tells of another fact, of none, or of one twice. -/
theorem spoilt (t : TblOk g sl fs) {i : Nat} {x : Int} (hi : i < 32) (h1 : gi sl i ≠ x) (h2 : ¬ (gi sl i < 0 ∧ x < 0)) : ¬ TblOk g (sl.set i x) fs := by
  intro u
  have hs : ∀ j, gi (sl.set i x) j = if i = j then x else gi sl j := fun j => gi_set _ _ (by rw [t.len]; exact hi)
  by_cases h0 : 0 ≤ gi sl i
  · obtain ⟨a, ha⟩ := at_lt (l := fs) (i := (gi sl i).toNat) (by have := t.at_ hi; omega)
    obtain ⟨m, r1, r2, r3⟩ := u.road _ a ha
    rw [hs] at r2
    split at r2
    · omega
    · rename_i hne
      exact hne (t.uniq hi (probe_lt32 _ _) h0 (by rw [r2]; omega))
  · have hx : 0 ≤ x := by omega
    have hu := u.at_ hi
    rw [hs, if_pos rfl] at hu
    obtain ⟨a, ha⟩ := at_lt (l := fs) (i := x.toNat) (by omega)
    obtain ⟨m, r1, r2, r3⟩ := t.road _ a ha
    have hne : i ≠ probe (hashM a).toNat m := fun e => by rw [← e] at r2; omega
    have := u.uniq hi (probe_lt32 (hashM a).toNat m) (by rw [hs, if_pos rfl]; exact hx) (by rw [hs, hs, if_pos rfl, if_neg hne, r2]; omega)
    exact hne this
/-! ### The first slot without a fact -/
def freeF (sl : List Int) (h : Nat) : Nat → Nat → Nat
  | 0, j => j
  | n + 1, j => if 0 ≤ gi sl (probe h j) then freeF sl h n (j + 1) else j
theorem freeF_is (sl : List Int) (h : Nat) : ∀ (n j : Nat), (∃ m, j ≤ m ∧ m < j + n ∧ gi sl (probe h m) < 0) → j ≤ freeF sl h n j ∧ freeF sl h n j < j + n ∧ gi sl (probe h (freeF sl h n j)) < 0 ∧ ∀ m', j ≤ m' → m' < freeF sl h n j → 0 ≤ gi sl (probe h m')
  | 0, j, ⟨m, h1, h2, h3⟩ => by omega
  | n + 1, j, ⟨m, h1, h2, h3⟩ => by
    unfold freeF
    by_cases h0 : 0 ≤ gi sl (probe h j)
    · rw [if_pos h0]
      have hmj : m ≠ j := fun e => by rw [e] at h3; omega
      obtain ⟨i1, i2, i3, i4⟩ := freeF_is sl h n (j + 1) ⟨m, by omega, by omega, h3⟩
      refine ⟨by omega, by omega, i3, fun m' g1 g2 => ?_⟩
      by_cases e : m' = j
      · rw [e]; exact h0
      · exact i4 m' (by omega) g2
    · rw [if_neg h0]
      exact ⟨Nat.le_refl _, by omega, by omega, fun m' g1 g2 => by omega⟩
theorem cnt_all : ∀ (l : List Int), (∀ x ∈ l, 0 ≤ x) → cnt l = l.length
  | [], h => rfl
  | x :: l, h => by
    have := cnt_all l (fun y hy => h y (by simp [hy]))
    have h0 := h x (by simp)
    have := cnt_mid [] l h0
    simp at this ⊢
    omega
theorem TblOk.free (t : TblOk g sl fs) (h : Nat) : ∃ m, m < 32 ∧ gi sl (probe h m) < 0 := by
  by_cases hx : ∃ m, m < 32 ∧ gi sl (probe h m) < 0
  · exact hx
  · have h1 : ∀ x ∈ sl, 0 ≤ x := fun x hx' => by
      obtain ⟨i, hi, rfl⟩ := mem_gi hx'
      obtain ⟨m, hm, he⟩ := probe_onto h (i := i) (by rw [t.len] at hi; exact hi)
      by_cases h0 : 0 ≤ gi sl i
      · exact h0
      · exact absurd ⟨m, hm, by rw [he]; omega⟩ hx
    have h2 := cnt_all sl h1
    have h3 := cnt_le fs.length sl (fun x hx' => by have := t.rng x hx'; omega) t.inj
    have := t.most
    have := t.len
    omega
end
end Go.Qu

/- Tables of facts: put in, taken out: what the program's functions hand back. For every input; no condition. -/
set_option linter.unusedVariables false
set_option linter.unusedSimpArgs false
set_option maxRecDepth 100000
namespace Go.Proofs.YtckhlalpnginjaaDoor.Ab
open Go Go.Ab Go.Qu Go.Proofs
attribute [local simp] and_assoc
theorem w_clone {a : List Int} (ha : Len a) {z : Bool} (hz : z = true → a = []) (e : List D) : C 43 [iS z a e] = some (.own z 3 1 (ints a), [iS z a e]) := by
  unfold Len at ha
  refine wfn (lk := []) rfl rfl (fnW_way (q43 _ _ z (ints a) e _) ?_)
  cases z with
  | true => have := hz rfl; subst this; simp [ints_nil]
  | false => simp [ints_len]; omega
/-- Rows without the room behind them. -/
def bare (r : Row) : Row := ⟨r.z, r.l, []⟩
def NilOk (r : Row) : Prop := r.z = true → r.l = []
theorem fl_bare (fs : List Row) : fl (fs.map bare) = fl fs := by simp [fl, bare]
theorem w_copied {sl : List Int} {fs : List Row} (hsl : Len sl) (hfs : fs.length * 24 ≤ 140737488351232) (hrows : ∀ r ∈ fs, Len r.l ∧ NilOk r) {zs : Bool} (hz : zs = true → sl = []) (zf : Bool) (es ef : List D) : C 42 [iT zs sl es zf fs ef] = some (.agg [.own zs 3 1 (ints sl), .own fs.isEmpty 23 1 (rws (fs.map bare))], [iT zs sl es zf fs ef]) := by
  refine wfn (lk := []) rfl rfl (fnW_way (q42 _ _ zs (ints sl) es zf (rws fs) ef _) ?_)
  have h1 := blk_fun (F := F) (d := d42) (lk := []) (p := [1,1,0,1,0,0]) (p0 := [1,1,0,1]) (id := 0) (by kernel_rfl) (st := fun (i : Nat) => [(2, .ptr 26 0 [.d (.sl 1 true [] []), .own true 23 1 []]), (3, .ptr 26 0 [.own zs 3 1 (ints sl), .own (fs.take i).isEmpty 23 1 (rws ((fs.take i).map bare))]), (11, iR zf fs ef), (12, iI fs.length), (13, iI i)]) (I := fun i => i ≤ fs.length) (μ := fun i => fs.length - i)
    (res := fun _ => .norm [(2, .ptr 26 0 [.d (.sl 1 true [] []), .own true 23 1 []]), (3, .ptr 26 0 [.own zs 3 1 (ints sl), .own fs.isEmpty 23 1 (rws (fs.map bare))]), (11, iR zf fs ef), (12, iI fs.length), (13, iI fs.length)])
    (fun i hi => by
      by_cases h : i < fs.length
      · obtain ⟨r, hr1⟩ := at_lt h
        have hL := hrows r (List.mem_of_getElem? hr1)
        have e1 : fs.take (i + 1) = fs.take i ++ [r] := by rw [List.take_add_one, hr1]; rfl
        refine .go (i + 1) (wpQ_way (q42_l0a _ _ true [] zs (ints sl) _ _ zf (rws fs) ef _ i _) ?_) h (by omega) rfl
        have e2 : (rws ((fs.take i).map bare)).length = i := by rw [rws_len, List.length_map, List.length_take]; omega
        have hi' : (i : Int) < fs.length := by omega
        simp [-Bool.exists_bool, -getElem?_pos, -Int.natCast_add, -List.map_take, h, rws_at hr1, w_clone hL.1 hL.2, wr1 h (by omega), e1, rws_append, rws_cons, rws_nil, e2]
        simp [bare]
        omega
      · have e1 : i = fs.length := by omega
        subst e1
        refine .stop (.exit 0 [(2, .ptr 26 0 [.d (.sl 1 true [] []), .own true 23 1 []]), (3, .ptr 26 0 [.own zs 3 1 (ints sl), .own fs.isEmpty 23 1 (rws (fs.map bare))]), (11, iR zf fs ef), (12, iI fs.length), (13, iI fs.length)]) (wpQ_way (q42_l0a _ _ true [] zs (ints sl) _ _ zf (rws fs) ef _ fs.length _) ?_) rfl rfl
        simp [rws_len]) 0 (Nat.zero_le _)
  simp [rws_nil] at h1
  simp [-Bool.exists_bool, w_clone hsl hz, rws_len, h1]
theorem w_index {l : List Int} (hl : Len l) {r : Nat} {x : Int} (hr : r < l.length) (h1 : gi l r = x) (h2 : ∀ i, i < r → gi l i ≠ x) (z : Bool) (e : List D) : C 45 [iS z l e, iI x] = some (iI r, [iS z l e, iI x]) := by
  have hll := hl.lt
  refine wfn (lk := []) rfl rfl (fnW_way (q45 _ _ z (ints l) e x _) ?_)
  rcases blk_find (F := F) (d := d45) (lk := []) (p := [1,0,1,0,0]) (p0 := [1,0,1]) (by kernel_rfl) (n := l.length) (id := 0) (st := fun i => [(0, iS z l e), (1, iI x), (7, iI l.length), (8, iI i)]) (q := fun i => gi l i == x) (rt := fun i => [(4, iI i)]) (e := [(0, iS z l e), (1, iI x), (7, iI l.length), (8, iI l.length)])
    (fun i hi hq => wpQ_way (q45_l0a _ _ z (ints l) e x _ i _) (by simp at hq; simp [-getElem?_pos, wr1 hi (by omega), hi, Go.Ab.ints_at hi, hq, Ne.symm hq]))
    (fun i hi hq => wpQ_way (q45_l0a _ _ z (ints l) e x _ i _) (by simp at hq; simp [-getElem?_pos, hi, Go.Ab.ints_at hi, hq]))
    (wpQ_way (q45_l0a _ _ z (ints l) e x _ l.length _) (by simp)) 0 (Nat.zero_le _) with ⟨h3, h4⟩ | ⟨j, h3, h4, h5, h6, h7⟩
  · have := h3 r (Nat.zero_le _) hr
    simp [h1] at this
  · have hj : j = r := by
      by_cases e1 : j < r
      · have := h2 j e1; simp at h5; exact absurd h5 this
      · by_cases e2 : r < j
        · have := h6 r (Nat.zero_le _) e2; simp [h1] at this
        · omega
    subst hj
    simp only [Int.natCast_zero] at h7
    simp [ints_len, h7]
theorem ints_set (l : List Int) (i : Nat) (x : Int) : (ints l).set i (.int .i64 x) = ints (l.set i x) := by simp [ints, List.map_set]
theorem rws_set (l : List Row) (i : Nat) (r : Row) : (rws l).set i (.sl 1 r.z (ints r.l) r.e) = rws (l.set i r) := by simp [rws, List.map_set, Row.d]
theorem rws_take (l : List Row) (i : Nat) : (rws l).take i = rws (l.take i) := by simp [rws, List.map_take]
/-- What a table is made of. -/
structure TabIn (zs : Bool) (sl : List Int) (fs : List Row) : Prop where
  len : Len sl
  most : fs.length * 24 ≤ 140737488351232
  rows : ∀ r ∈ fs, Len r.l ∧ NilOk r
  nil : zs = true → sl = []
theorem tabIn_r1 {zs : Bool} {sl : List Int} {fs : List Row} (t : TabIn zs sl fs) : ∀ r ∈ fs, Len r.l := fun r hr => (t.rows r hr).1
section
variable {zs zf z z' : Bool} {sl a : List Int} {fs : List Row} {g : List Sym} {e e' es ef : List D}
theorem w_put_no (T : TabIn zs sl fs) (h : (tblB g sl (fl fs) && factB g a) = false) : C 21 [iG z g e, iT zs sl es zf fs ef, iS z' a e'] = some (.tup [.agg [.own true 3 1 [], .own true 23 1 []], iB false, iI 1100], [iG z g e, iT zs sl es zf fs ef, iS z' a e']) := by
  refine wfn (lk := []) rfl rfl (fnW_way (q21 _ _ z (syms g) e zs (ints sl) es zf (rws fs) ef z' (ints a) e' _) ?_)
  have h1 := w_has zs zf es ef T.len T.most (tabIn_r1 T) z z' g e e' a
  rw [h] at h1
  simp [-Bool.exists_bool, h1]
theorem w_cut_no (T : TabIn zs sl fs) (h : (tblB g sl (fl fs) && factB g a) = false) : C 23 [iG z g e, iT zs sl es zf fs ef, iS z' a e'] = some (.tup [.agg [.own true 3 1 [], .d (.sl 1 true [] [])], iB false, iI 1100], [iG z g e, iT zs sl es zf fs ef, iS z' a e']) := by
  refine wfn (lk := []) rfl rfl (fnW_way (q23 _ _ z (syms g) e zs (ints sl) es zf (rws fs) ef z' (ints a) e' _) ?_)
  have h1 := w_has zs zf es ef T.len T.most (tabIn_r1 T) z z' g e e' a
  rw [h] at h1
  simp [-Bool.exists_bool, h1]
theorem has_in (T : TabIn zs sl fs) (t : TblOk g sl (fl fs)) (hf : factB g a = true) : C 12 [iG z g e, iT zs sl es zf fs ef, iS z' a e'] = some (.tup [iB (decide (a ∈ fl fs)), iI 0], [iG z g e, iT zs sl es zf fs ef, iS z' a e']) := by
  have h1 := w_has zs zf es ef T.len T.most (tabIn_r1 T) z z' g e e' a
  rw [tblB_ok.2 t, hf] at h1
  simp only [Bool.and_self, Bool.true_and, if_true, t.has a] at h1
  exact h1
theorem w_put_is (T : TabIn zs sl fs) (t : TblOk g sl (fl fs)) (hf : factB g a = true) (hm : a ∈ fl fs) : C 21 [iG z g e, iT zs sl es zf fs ef, iS z' a e'] = some (.tup [.agg [.own zs 3 1 (ints sl), .own fs.isEmpty 23 1 (rws (fs.map bare))], iB false, iI 0], [iG z g e, iT zs sl es zf fs ef, iS z' a e']) := by
  refine wfn (lk := []) rfl rfl (fnW_way (q21 _ _ z (syms g) e zs (ints sl) es zf (rws fs) ef z' (ints a) e' _) ?_)
  have h1 := has_in (z := z) (z' := z') (e := e) (e' := e') (zf := zf) (es := es) (ef := ef) T t hf
  have h2 := w_copied T.len T.most T.rows T.nil zf es ef
  simp only [hm, decide_true] at h1
  simp [-Bool.exists_bool, h1, h2]
theorem w_cut_not (T : TabIn zs sl fs) (t : TblOk g sl (fl fs)) (hf : factB g a = true) (hm : a ∉ fl fs) : C 23 [iG z g e, iT zs sl es zf fs ef, iS z' a e'] = some (.tup [.agg [.own zs 3 1 (ints sl), .own fs.isEmpty 23 1 (rws (fs.map bare))], iB false, iI 0], [iG z g e, iT zs sl es zf fs ef, iS z' a e']) := by
  refine wfn (lk := []) rfl rfl (fnW_way (q23 _ _ z (syms g) e zs (ints sl) es zf (rws fs) ef z' (ints a) e' _) ?_)
  have h1 := has_in (z := z) (z' := z') (e := e) (e' := e') (zf := zf) (es := es) (ef := ef) T t hf
  have h2 := w_copied T.len T.most T.rows T.nil zf es ef
  simp only [hm, decide_false] at h1
  simp [-Bool.exists_bool, h1, h2]
theorem w_put_full (T : TabIn zs sl fs) (t : TblOk g sl (fl fs)) (hf : factB g a = true) (hm : a ∉ fl fs) (hl : fs.length = 24) : C 21 [iG z g e, iT zs sl es zf fs ef, iS z' a e'] = some (.tup [.agg [.own true 3 1 [], .own true 23 1 []], iB false, iI 1101], [iG z g e, iT zs sl es zf fs ef, iS z' a e']) := by
  refine wfn (lk := []) rfl rfl (fnW_way (q21 _ _ z (syms g) e zs (ints sl) es zf (rws fs) ef z' (ints a) e' _) ?_)
  have h1 := has_in (z := z) (z' := z') (e := e) (e' := e') (zf := zf) (es := es) (ef := ef) T t hf
  simp only [hm, decide_false] at h1
  simp [-Bool.exists_bool, h1, rws_len, hl]
/-- The slot that a fact gets. -/
def freeM (sl a : List Int) : Nat := probe (hashM a).toNat (freeF sl (hashM a).toNat 32 0)
theorem freeM_is (t : TblOk g sl (fl fs)) (a : List Int) : ∃ m, m < 32 ∧ freeM sl a = probe (hashM a).toNat m ∧ freeF sl (hashM a).toNat 32 0 = m ∧ gi sl (probe (hashM a).toNat m) < 0 ∧ ∀ m', m' < m → 0 ≤ gi sl (probe (hashM a).toNat m') := by
  obtain ⟨m, h1, h2⟩ := t.free (hashM a).toNat
  obtain ⟨i1, i2, i3, i4⟩ := freeF_is sl (hashM a).toNat 32 0 ⟨m, by omega, by omega, h2⟩
  exact ⟨_, by omega, rfl, rfl, i3, fun m' hm' => i4 m' (by omega) hm'⟩
theorem w_put_new (T : TabIn zs sl fs) (t : TblOk g sl (fl fs)) (hf : factB g a = true) (hm : a ∉ fl fs) (hl : fs.length < 24) (hz' : z' = true → a = []) : C 21 [iG z g e, iT zs sl es zf fs ef, iS z' a e'] = some (.tup [.agg [.own zs 3 1 (ints (sl.set (freeM sl a) fs.length)), .own false 23 1 (rws (fs.map bare ++ [⟨z', a, []⟩]))], iB true, iI 0], [iG z g e, iT zs sl es zf fs ef, iS z' a e']) := by
  refine wfn (lk := []) rfl rfl (fnW_way (q21 _ _ z (syms g) e zs (ints sl) es zf (rws fs) ef z' (ints a) e' _) ?_)
  have h1 := has_in (z := z) (z' := z') (e := e) (e' := e') (zf := zf) (es := es) (ef := ef) T t hf
  have h2 := w_copied T.len T.most T.rows T.nil zf es ef
  have hsm := fact_small hf
  have h3 := w_clone hsm.2 hz' e'
  have h4 := w_hash hsm.2 hsm.1 z' e'
  have hh := hashM_lt a
  obtain ⟨m, m1, m2, m3, m4, m5⟩ := freeM_is t a
  have h5 := fun x hx => blk_fun (F := F) (d := d21) (lk := []) (p := [1,1,1,1,1,1,0,0,0]) (p0 := [1,1,1,1,1,1,0]) (id := 1) (by kernel_rfl) (st := fun (j : Nat) => [(6, .ptr 26 0 [.own true 3 1 [], .own true 23 1 []]), (11, .ptr 26 0 [.own zs 3 1 (ints sl), .own false 23 1 (rws (fs.map bare ++ [⟨z', a, []⟩]))]), (12, iI (probe (hashM a).toNat j))]) (I := fun j => j ≤ m) (μ := fun j => m - j)
    (res := fun _ => .norm [(6, .ptr 26 0 [.own true 3 1 [], .own true 23 1 []]), (11, .ptr 26 0 [.own zs 3 1 (ints sl), .own false 23 1 (rws (fs.map bare ++ [⟨z', a, []⟩]))]), (12, iI (probe (hashM a).toNat m))])
    (fun j hj => by
      have hp := probe_lt32 (hashM a).toNat j
      have hat := Go.Ab.ints_at (l := sl) (i := probe (hashM a).toNat j) (by rw [t.len]; exact hp)
      by_cases hjm : j < m
      · have h0 := m5 j hjm
        refine .go (j + 1) (wpQ_way (q21_l1a _ _ _ _ _ _ zs (ints sl) _ _ (probe (hashM a).toNat j) _) ?_) hjm (by omega) rfl
        have hw : Int.tmod (IntKind.wrap .i64 ((probe (hashM a).toNat j : Int) + 1)) 32 = ((probe (hashM a).toNat (j + 1) : Nat) : Int) := by
          rw [← probe_step, wr _ (by omega) (by omega), Int.tmod_eq_emod_of_nonneg (by omega)]; omega
        simp [-Bool.exists_bool, -getElem?_pos, -Int.natCast_add, hat, h0, hw]
      · have e1 : j = m := by omega
        subst e1
        refine .stop (.exit 1 [(6, .ptr 26 0 [.own true 3 1 [], .own true 23 1 []]), (11, .ptr 26 0 [.own zs 3 1 (ints sl), .own false 23 1 (rws (fs.map bare ++ [⟨z', a, []⟩]))]), (12, iI (probe (hashM a).toNat j))]) (wpQ_way (q21_l1a _ _ _ _ _ _ zs (ints sl) _ _ (probe (hashM a).toNat j) _) ?_) rfl rfl
        have m4' : ¬ 0 ≤ gi sl (probe (hashM a).toNat j) := by omega
        simp [-Bool.exists_bool, -getElem?_pos, hat, m4, m4']) x hx
  have h6 := h5 0 (Nat.zero_le _)
  have hp0 : Int.tmod (hashM a) 32 = ((probe (hashM a).toNat 0 : Nat) : Int) := by
    rw [Int.tmod_eq_emod_of_nonneg hh.1]; unfold probe; omega
  have hp := probe_lt32 (hashM a).toNat m
  have hat := Go.Ab.ints_at (l := sl) (i := probe (hashM a).toNat m) (by rw [t.len]; exact hp)
  have hl' : ¬ (fs.length : Int) = 24 := by omega
  have hlen : (rws (fs.map bare)).length = fs.length := by rw [rws_len, List.length_map]
  have hlen2 : (rws (fs.map bare ++ [⟨z', a, []⟩])).length = fs.length + 1 := by rw [rws_len, List.length_append, List.length_map]; rfl
  have happ : rws (fs.map bare) ++ [D.sl 1 z' (ints a) []] = rws (fs.map bare ++ [⟨z', a, []⟩]) := by rw [rws_append]; rfl
  have hw : IntKind.wrap .i64 (((fs.length + 1 : Nat) : Int) - 1) = (fs.length : Int) := by rw [wr _ (by omega) (by omega)]; omega
  have hb1 : fs.length + 1 ≤ 9223372036854775807 := by omega
  have hb2 : (fs.length + 1) * 24 ≤ 140737488355328 := by omega
  simp only [hm, decide_false] at h1
  simp [-Bool.exists_bool, -getElem?_pos, -Int.natCast_add, -List.map_append, h1, h2, h3, h4, rws_len, hl', hlen, hlen2, happ, hp0, h6, hat, hw, ints_set, hb1, hb2, m2]
  omega
end
/-- The rows that are left. -/
def outR (fs : List Row) (p : Nat) : List Row := ((fs.map bare).set p ((fs.map bare).getD (fs.length - 1) ⟨false, [], []⟩)).take (fs.length - 1)
theorem fl_outR (fs : List Row) {p : Nat} (hp : p < fs.length) : fl (outR fs p) = outF (fl fs) p := by
  have h1 : fs.length - 1 < fs.length := by omega
  simp [outR, outF, fl, List.map_take, List.map_set, h1, bare]
  rfl
def cutS (sl : List Int) (n p q r : Nat) : List Int := if p = n - 1 then sl.set q (-2) else (sl.set q (-2)).set r p
section
variable {zs zf z z' : Bool} {sl a : List Int} {fs : List Row} {g : List Sym} {e e' es ef : List D}
theorem rows_bare (h : ∀ r ∈ fs, Len r.l ∧ NilOk r) : ∀ r ∈ fs.map bare, Len r.l ∧ NilOk r := by
  intro r hr
  obtain ⟨x, hx, rfl⟩ := List.mem_map.1 hr
  exact h x hx
theorem rows_outR (h : ∀ r ∈ fs, Len r.l ∧ NilOk r) {p : Nat} (hp : p < fs.length) : ∀ r ∈ outR fs p, Len r.l ∧ NilOk r := by
  intro r hr
  have h1 := List.mem_of_mem_take hr
  rcases List.mem_or_eq_of_mem_set h1 with h2 | h2
  · exact rows_bare h r h2
  · have h3 : fs.length - 1 < (fs.map bare).length := by rw [List.length_map]; omega
    rw [List.getD_eq_getElem?_getD, List.getElem?_eq_getElem h3] at h2
    subst h2
    exact rows_bare h _ (List.getElem_mem h3)
theorem cutS_tbl (t : TblOk g sl (fl fs)) {p q r : Nat} (hp : p < fs.length) (hq : q < 32) (hr : r < 32) (gq : gi sl q = p) (gr : gi sl r = ((fs.length - 1 : Nat) : Int)) : TblOk g (cutS sl fs.length p q r) (outF (fl fs) p) := by
  have hlen := t.len
  refine cut_tbl t (p := p) (q := q) (r := r) (by rw [fl_len]; exact hp) hq hr gq (by rw [fl_len]; exact gr) (by unfold cutS; split <;> simp [hlen]) (by rw [outF_len, fl_len]) (fun i hi => ?_) (fun k hk => outF_at (by rw [fl_len]; exact hp) hk)
  rw [fl_len]
  have s1 : ∀ j, gi (sl.set q (-2)) j = if q = j then -2 else gi sl j := fun j => gi_set _ _ (by omega)
  unfold cutS
  by_cases e1 : p = fs.length - 1
  · rw [if_pos e1, s1]
    have n1 : ¬ (p ≠ fs.length - 1 ∧ i = r) := fun h => h.1 e1
    rw [if_neg n1]
    by_cases e2 : q = i
    · rw [if_pos e2, if_pos e2.symm]
    · rw [if_neg e2, if_neg (fun h => e2 h.symm)]
  · rw [if_neg e1, gi_set _ _ (by simp; omega), s1]
    by_cases e3 : r = i
    · subst e3; simp [e1]
    · have e4 : ¬ i = r := fun h => e3 h.symm
      by_cases e2 : q = i
      · subst e2; simp [e3, e4]
      · have e5 : ¬ i = q := fun h => e2 h.symm
        simp [e3, e4, e2, e5]
theorem w_cut_yes (T : TabIn zs sl fs) (t : TblOk g sl (fl fs)) (hf : factB g a = true) {p : Nat} (hm : (fl fs)[p]? = some a) : ∃ q r, q < 32 ∧ r < 32 ∧ gi sl q = p ∧ gi sl r = ((fs.length - 1 : Nat) : Int) ∧ ∀ z z' zf e e' es ef, C 23 [iG z g e, iT zs sl es zf fs ef, iS z' a e'] = some (.tup [.agg [.own zs 3 1 (ints (cutS sl fs.length p q r)), .d (.sl 1 false (rws (outR fs p)) [])], iB true, iI 0], [iG z g e, iT zs sl es zf fs ef, iS z' a e']) := by
  have hmem : a ∈ fl fs := List.mem_of_getElem? hm
  have hpl : p < fs.length := by have := lt_at hm; rwa [fl_len] at this
  obtain ⟨m, m1, m2, m3⟩ := t.slot hm
  have hq := probe_lt32 (hashM a).toNat m
  generalize probe (hashM a).toNat m = q at m2 m3 hq
  obtain ⟨b, hb⟩ := at_lt (l := fl fs) (i := fs.length - 1) (by rw [fl_len]; omega)
  obtain ⟨mb, b1, b2, b3⟩ := t.slot hb
  have hr := probe_lt32 (hashM b).toNat mb
  generalize probe (hashM b).toNat mb = r at b2 b3 hr
  refine ⟨q, r, hq, hr, m3, b3, fun z z' zf e e' es ef => ?_⟩
  refine wfn (lk := []) rfl rfl (fnW_way (q23 _ _ z (syms g) e zs (ints sl) es zf (rws fs) ef z' (ints a) e' _) ?_)
  have h1 := has_in (z := z) (z' := z') (e := e) (e' := e') (zf := zf) (es := es) (ef := ef) T t hf
  have h2 := w_copied T.len T.most T.rows T.nil zf es ef
  have hsm := fact_small hf
  have hmost := t.most
  rw [fl_len] at hmost
  have hlt : ∀ x ∈ sl, x < (fs.map bare).length := fun x hx => by
    have := t.rng x hx
    rw [fl_len] at this
    rw [List.length_map]
    omega
  have h3 := w_slot zs false [] [] (sl := sl) (fs := fs.map bare) hsm.2 hsm.1 t.len hlt (fun r hr => (rows_bare T.rows r hr).1) z' e'
  rw [fl_bare, m2] at h3
  have hne : fs.isEmpty = false := by cases fs with
    | nil => simp at hpl
    | cons _ _ => rfl
  rw [hne] at h2
  have hlen : (rws (fs.map bare)).length = fs.length := by rw [rws_len, List.length_map]
  have hw : IntKind.wrap .i64 ((fs.length : Int) - 1) = ((fs.length - 1 : Nat) : Int) := by rw [wr _ (by omega) (by omega)]; omega
  have hat := Go.Ab.ints_at (l := sl) (i := q) (by rw [t.len]; exact hq)
  simp only [hmem, decide_true] at h1
  by_cases hpe : p = fs.length - 1
  · have hpe' : ((p : Nat) : Int) = ((fs.length - 1 : Nat) : Int) := by omega
    have hle : fs.length - 1 ≤ fs.length := by omega
    have hle' : ((fs.length - 1 : Nat) : Int) ≤ (fs.length : Int) := by omega
    have ht : (rws (fs.map bare)).take (fs.length - 1) = rws (outR fs p) := by
      rw [rws_take]; congr 1
      unfold outR
      refine List.ext_getElem? fun i => ?_
      simp only [List.getElem?_take, List.getElem?_set]
      split
      · rw [if_neg (by omega)]
      · rfl
    simp [-Bool.exists_bool, -getElem?_pos, -Int.natCast_add, -List.map_append, h1, h2, h3, hat, m3, hlen, hw, hpe', hle', ht, cutS, hpe, ints_set]
  · have hqr : ¬ q = r := fun e => by subst e; rw [m3] at b3; omega
    have g1 : ∀ j, gi (sl.set q (-2)) j = if q = j then -2 else gi sl j := fun j => gi_set _ _ (by rw [t.len]; exact hq)
    have hl1 : (sl.set q (-2)).length = 32 := by rw [List.length_set]; exact t.len
    have h45 := w_index (l := sl.set q (-2)) (r := r) (x := ((fs.length - 1 : Nat) : Int)) (by unfold Len; omega) (by omega) (by rw [g1, if_neg hqr, b3]) (fun i hi he => by
      rw [g1] at he
      split at he
      · omega
      · have := t.uniq (i := i) (j := r) (by omega) hr (by rw [he]; omega) (by rw [he, b3])
        omega) zs []
    have hat2 := Go.Ab.ints_at (l := sl.set q (-2)) (i := r) (by omega)
    obtain ⟨x, hx⟩ := at_lt (l := fs) (i := fs.length - 1) (by omega)
    obtain ⟨y, hy⟩ := at_lt hpl
    have hxb : (fs.map bare)[fs.length - 1]? = some (bare x) := by rw [List.getElem?_map, hx]; rfl
    have hyb : (fs.map bare)[p]? = some (bare y) := by rw [List.getElem?_map, hy]; rfl
    have hx2 := rws_at hxb
    have hy2 := rws_at hyb
    have hpe' : ¬ ((p : Nat) : Int) = ((fs.length - 1 : Nat) : Int) := by omega
    have hle' : ((fs.length - 1 : Nat) : Int) ≤ (fs.length : Int) := by omega
    have ht : ((rws (fs.map bare)).set p (.sl 1 (bare x).z (ints (bare x).l) (bare x).e)).take (fs.length - 1) = rws (outR fs p) := by
      rw [rws_set, rws_take]; congr 1
      unfold outR
      rw [List.getD_eq_getElem?_getD, hxb]; rfl
    simp [-Bool.exists_bool, -getElem?_pos, -Int.natCast_add, -List.map_append, h1, h2, h3, hat, m3, hlen, hw, hpe', hpe, h45, hat2, hx2, hy2, hle', ht, cutS, ints_set]
end
end Go.Proofs.YtckhlalpnginjaaDoor.Ab

/- Where a table's functions mark Insert. No condition. -/
namespace Go.Ab
open Go
theorem insOf_mem : ∀ {cv : List (Nat × Cv)} {g : FuncId} {e : TypeId}, insOf cv g = some e → (1000000 + g, Cv.own e) ∈ cv
  | [], g, e, h => by simp [insOf] at h
  | (i, c) :: r, g, e, h => by
    cases c with
    | own t =>
      simp only [insOf] at h
      split at h
      · rename_i hi; cases h; rw [hi]; exact List.mem_cons_self ..
      · exact List.mem_cons_of_mem _ (insOf_mem h)
    | _ => simp only [insOf] at h; exact List.mem_cons_of_mem _ (insOf_mem h)
theorem codeOf_mem : ∀ {l : List (FuncId × FnD)} {f : FuncId} {fn : FnD}, codeOf l f = some fn → ∃ p ∈ l, p.2 = fn
  | [], f, fn, h => by simp [codeOf] at h
  | p :: l, f, fn, h => by
    unfold codeOf at h
    split at h
    · cases h; exact ⟨p, List.mem_cons_self .., rfl⟩
    · obtain ⟨q, h1, h2⟩ := codeOf_mem h
      exact ⟨q, List.mem_cons_of_mem _ h1, h2⟩
def insChk (l : List (FuncId × FnD)) (G : FuncId) (T : TypeId) : Bool :=
  l.all fun p => p.2.cv.all fun c => match c.2 with | .own t => decide (c.1 < 1000000) || (decide (c.1 = 1000000 + G) && decide (t = T)) | _ => true
theorem insChk_ok {l : List (FuncId × FnD)} {G : FuncId} {T : TypeId} (h : insChk l G T = true) {f : FuncId} {fn : FnD} (hf : codeOf l f = some fn) {g : FuncId} {e : TypeId} (hg : insOf fn.cv g = some e) : g = G ∧ e = T := by
  obtain ⟨p, hp, rfl⟩ := codeOf_mem hf
  have h1 := List.all_eq_true.1 (List.all_eq_true.1 h p hp) _ (insOf_mem hg)
  simp only [Bool.or_eq_true, Bool.and_eq_true, decide_eq_true_eq] at h1
  rcases h1 with h1 | ⟨h1, h2⟩
  · exact absurd h1 (Nat.not_lt.2 (Nat.le_add_right _ _))
  · exact ⟨Nat.add_left_cancel h1, h2⟩
end Go.Ab

/- No function of this seat's table marks slices.Insert. No condition. -/
set_option linter.unusedVariables false
set_option maxRecDepth 100000
namespace Go.Proofs.YtckhlalpnginjaaDoor.Ab
open Go Go.Ab Go.Proofs
theorem insAll (f : FuncId) (fn : FnD) (hf : codeOf code f = some fn) (g : FuncId) (e : TypeId) (hg : insOf fn.cv g = some e) : InsOk Tryd.prog g e ∧ FnOk Tryd.prog g := by
  have h1 : (code.all fun p => p.2.cv.all fun c => match c.2 with | .own _ => decide (c.1 < 1000000) | _ => true) = true := by kernel_rfl
  obtain ⟨p, hp, rfl⟩ := codeOf_mem hf
  have h2 := List.all_eq_true.1 (List.all_eq_true.1 h1 p hp) _ (insOf_mem hg)
  exact absurd (of_decide_eq_true h2) (Nat.not_lt.2 (Nat.le_add_right _ _))
end Go.Proofs.YtckhlalpnginjaaDoor.Ab
