/- Picks: what the functions hand back. For every input; no condition. -/
import Derived.Test.YtoghhgceanlkkaaAb1
set_option linter.unusedVariables false
set_option maxRecDepth 100000
namespace Go.Proofs.Ytoghhgceanlkkaa.Ab
open Go Go.Ab Go.Proofs

theorem at_ {f : FuncId} {d : FnD} (h : codeOf code f = some d) (n : Nat) (args : List IV) : evF F (n + 1) f args = evFn F (evF F n) n d args := by
  have h1 : F.code f = some d := h
  have h2 : F.prim f = none := rfl
  show (match F.prim f with | some p => p args | none => match F.code f with | some fn => evFn F (evF F n) n fn args | none => none) = _
  rw [h2, h1]
/-- As many as there may be. -/
def Len (l : List Int) : Prop := l.length * 8 ≤ 140737488351232
theorem Len.lt {l : List Int} (h : Len l) : (l.length : Int) < 20000000000000 := by unfold Len at h; omega

theorem s14 {l : List Int} (hl : Len l) (nz : Bool) (e : List D) (n : Nat) : evF F (n + 1) 14 [.d (.sl 1 nz (ints l) e)] = some (.own false 3 1 (ints l), [.d (.sl 1 nz (ints l) e)]) := by
  rw [at_ (d := d14) (by rfl)]
  unfold Len at hl
  exact q14_0 nz l e (by rw [ints_len]; omega) (by rw [ints_len]; omega)
theorem s7 {l : List Int} (hl : Len l) (nz : Bool) (e : List D) (n : Nat) : evF F (n + 2) 7 [.d (.sl 1 nz (ints l) e)] = some (.d (.sl 1 false (ints l) [.int .i64 (-7777), .int .i64 (-8888)]), [.d (.sl 1 nz (ints l) e)]) := by
  rw [at_ (d := d7) (by rfl)]
  have h := q7_0 nz l e (C := evF F (n + 1)) (fuel := n + 1) false (ints l) _ (s14 hl nz e n)
  unfold Len at hl
  have h2 := h (by rw [ints_len]; omega) (by rw [ints_len]; omega) (by simp; omega)
  rw [h2]
  simp [ints_len]
theorem s10 (a : Int) (n : Nat) : evF F (n + 1) 10 [.d (.int .i64 a)] = some (.d (.int .i64 a), [.d (.int .i64 a)]) := by
  rw [at_ (d := d10) (by rfl)]
  exact q10_0 a
/-! ### SameInts -/
theorem l21 {l0 l1 : List Int} (hl : Len l0) (he : l0.length = l1.length) (z0 z1 : Bool) (e0 e1 : List D) {C : Caller} : ∀ (d i : Nat), l0.length - i = d → i ≤ l0.length → (∀ j, j < i → gi l0 j = gi l1 j) → ∀ fuel, d < fuel →
    (∃ s, evL F C fuel d21 [] [1,1,0,1,0,0] [(0, .d (.sl 1 z0 (ints l0) e0)), (1, .d (.sl 1 z1 (ints l1) e1)), (5, .d (.int .i64 i))] = some (.exit 0 [(0, .d (.sl 1 z0 (ints l0) e0)), (1, .d (.sl 1 z1 (ints l1) e1)), (5, .d (.int .i64 s))]) ∧ l0 = l1) ∨
    (evL F C fuel d21 [] [1,1,0,1,0,0] [(0, .d (.sl 1 z0 (ints l0) e0)), (1, .d (.sl 1 z1 (ints l1) e1)), (5, .d (.int .i64 i))] = some (.ret [(4, .d (.bool false))]) ∧ l0 ≠ l1)
  | 0, i, hd, hi, hj, 0, hf => by omega
  | d + 1, i, hd, hi, hj, 0, hf => by omega
  | 0, i, hd, hi, hj, fuel + 1, hf => by
    refine .inl ⟨i, evL_end (q21l_2 z0 z1 l0 l1 e0 e1 i (by rw [ints_len]; omega)) rfl, ?_⟩
    refine List.ext_getElem he (fun j h1 h2 => ?_)
    have := hj j (by omega)
    simpa [gi, h1, h2] using this
  | d + 1, i, hd, hi, hj, fuel + 1, hf => by
    have hlt : i < l0.length := by omega
    by_cases hv : gi l0 i = gi l1 i
    · have hw := hl.lt
      have h1 := q21l_1 (C := C) (fuel := fuel) z0 z1 l0 l1 e0 e1 i (gi l0 i) (gi l1 i) (by rw [ints_len]; omega) (by omega) (ints_int hlt) (ints_int (by omega)) (by simp [hv])
      rw [wr _ (by omega) (by omega)] at h1
      rcases l21 hl he z0 z1 e0 e1 d (i + 1) (by omega) (by omega) (fun j hj' => by
        by_cases h : j = i
        · subst h; exact hv
        · exact hj j (by omega)) fuel (by omega) with ⟨s, h2, h3⟩ | ⟨h2, h3⟩
      · exact .inl ⟨s, evL_go h1 h2, h3⟩
      · exact .inr ⟨evL_go h1 h2, h3⟩
    · have h1 := q21l_0 (C := C) (fuel := fuel) z0 z1 l0 l1 e0 e1 i (gi l0 i) (gi l1 i) (by rw [ints_len]; omega) (by omega) (ints_int hlt) (ints_int (by omega)) (by simp [hv])
      exact .inr ⟨evL_end h1 rfl, fun e => hv (by rw [e])⟩
theorem s21 {l0 l1 : List Int} (hl : Len l0) (z0 z1 : Bool) (e0 e1 : List D) (n : Nat) (hn : l0.length ≤ n) : evF F (n + 1) 21 [.d (.sl 1 z0 (ints l0) e0), .d (.sl 1 z1 (ints l1) e1)] = some (.d (.bool (decide (l0 = l1))), [.d (.sl 1 z0 (ints l0) e0), .d (.sl 1 z1 (ints l1) e1)]) := by
  rw [at_ (d := d21) (by rfl)]
  by_cases he : l0.length = l1.length
  · have hb : ((↑(List.length (ints l0)) : Int) != (↑(List.length (ints l1)) : Int)) = false := by rw [ints_len, ints_len]; simp [he]
    rcases l21 (C := evF F n) hl he z0 z1 e0 e1 l0.length 0 (by omega) (by omega) (fun j h => by omega) (n + 1) (by omega) with ⟨s, h2, h3⟩ | ⟨h2, h3⟩
    · rw [decide_eq_true h3]
      exact q21_1 z0 z1 l0 l1 e0 e1 _ _ _ _ _ _ _ hb (evL_at (p' := [1,1,0,1,0,0]) (id := 0) (by kernel_rfl) h2 rfl)
    · rw [decide_eq_false h3]
      exact q21_2 z0 z1 l0 l1 e0 e1 _ hb (evL_at (p' := [1,1,0,1,0,0]) (id := 0) (by kernel_rfl) h2 rfl)
  · rw [decide_eq_false (fun e => he (by rw [e]))]
    exact q21_0 z0 z1 l0 l1 e0 e1 (by rw [ints_len, ints_len]; simp; omega)
/-! ### KeptInts -/
theorem s11 {l : List Int} (hl : Len l) (z0 z1 : Bool) (e1 : List D) (n : Nat) (hn : l.length ≤ n) : evF F (n + 2) 11 [.d (.sl 1 z0 (ints l) [.int .i64 (-7777), .int .i64 (-8888)]), .d (.sl 1 z1 (ints l) e1)] = some (.d (.bool true), [.d (.sl 1 z0 (ints l) [.int .i64 (-7777), .int .i64 (-8888)]), .d (.sl 1 z1 (ints l) e1)]) := by
  rw [at_ (d := d11) (by rfl)]
  have hw := hl.lt
  have w1 : IntKind.wrap .i64 ((l.length : Int) + 2) = (l.length : Int) + 2 := wr _ (by omega) (by omega)
  have w2 : IntKind.wrap .i64 ((l.length : Int) + 1) = (l.length : Int) + 1 := wr _ (by omega) (by omega)
  have h21 := s21 hl z0 z1 [.int .i64 (-7777), .int .i64 (-8888)] e1 n hn (l1 := l)
  rw [decide_eq_true rfl] at h21
  have hfull : (ints l ++ [D.int .i64 (-7777), D.int .i64 (-8888)]).take (l.length + 2) = ints l ++ [D.int .i64 (-7777), D.int .i64 (-8888)] := by
    rw [List.take_of_length_le]; simp [ints_len]
  have t2 : Int.toNat ((l.length : Int) + 2) = l.length + 2 := by omega
  have t1 : Int.toNat ((l.length : Int) + 1) = l.length + 1 := by omega
  have g1 : (ints l ++ [D.int .i64 (-7777), D.int .i64 (-8888)])[l.length]? = some (.int .i64 (-7777)) := by
    rw [List.getElem?_append_right (by rw [ints_len]; omega)]; simp [ints_len]
  have g2 : (ints l ++ [D.int .i64 (-7777), D.int .i64 (-8888)])[l.length + 1]? = some (.int .i64 (-8888)) := by
    rw [List.getElem?_append_right (by rw [ints_len]; omega)]; simp [ints_len]
  refine q11_0 (C := evF F (n + 1)) z0 z1 l l e1 (-7777) (-8888) true _ _ (-7777) (-8888) ?_ ?_ h21 rfl ?_ rfl ?_ ?_ rfl
  · rw [ints_len, w1]; omega
  · rw [ints_len, w1]; omega
  · rw [ints_len, w1, t2, hfull, Int.toNat_natCast]; exact g1
  · rw [ints_len, w2]; omega
  · rw [ints_len, w1, w2, t2, t1, hfull]; exact g2
/-! ### The promise's answer -/
def RatioOk (a b : Int) : Bool := decide (a ≥ 0) && decide (a ≤ 20) && decide (b ≥ 1) && decide (b ≤ 20)
theorem s20 (a b : Int) (n : Nat) : evF F (n + 1) 20 [.d (.agg [.int .i64 a, .int .i64 b])] = some (.d (.bool (RatioOk a b)), [.d (.agg [.int .i64 a, .int .i64 b])]) := by
  rw [at_ (d := d20) (by rfl)]
  unfold RatioOk
  by_cases h1 : a ≥ 0
  · by_cases h2 : a ≤ 20
    · by_cases h3 : b ≥ 1
      · by_cases h4 : b ≤ 20
        · rw [decide_eq_true h1, decide_eq_true h2, decide_eq_true h3, decide_eq_true h4]; exact q20_0 a b h1 h2 h3 h4
        · rw [decide_eq_true h1, decide_eq_true h2, decide_eq_true h3, decide_eq_false h4]; exact q20_1 a b h1 h2 h3 h4
      · rw [decide_eq_true h1, decide_eq_true h2, decide_eq_false h3]; exact q20_2 a b h1 h2 h3
    · rw [decide_eq_true h1, decide_eq_false h2]; exact q20_3 a b h1 h2
  · rw [decide_eq_false h1]; exact q20_4 a b h1
theorem s17 (a b : Int) (n : Nat) : evF F (n + 1) 17 [.d (.agg [.int .i64 a, .int .i64 b])] = some (.d (.bool (RatioOk a b)), [.d (.agg [.int .i64 a, .int .i64 b])]) := by
  rw [at_ (d := d17) (by rfl)]
  unfold RatioOk
  by_cases h1 : a ≥ 0
  · by_cases h2 : a ≤ 20
    · by_cases h3 : b ≥ 1
      · by_cases h4 : b ≤ 20
        · rw [decide_eq_true h1, decide_eq_true h2, decide_eq_true h3, decide_eq_true h4]; exact q17_0 a b h1 h2 h3 h4
        · rw [decide_eq_true h1, decide_eq_true h2, decide_eq_true h3, decide_eq_false h4]; exact q17_1 a b h1 h2 h3 h4
      · rw [decide_eq_true h1, decide_eq_true h2, decide_eq_false h3]; exact q17_2 a b h1 h2 h3
    · rw [decide_eq_true h1, decide_eq_false h2]; exact q17_3 a b h1 h2
  · rw [decide_eq_false h1]; exact q17_4 a b h1
theorem ratio_true {a b : Int} (h : RatioOk a b = true) : 0 ≤ a ∧ a ≤ 20 ∧ 1 ≤ b ∧ b ≤ 20 := by
  unfold RatioOk at h; simp at h; omega
def Good (l : List Int) : Prop := ∀ j, j < l.length → 0 ≤ gi l j ∧ gi l j ≤ 1000000
/-- The first of the least ones. -/
def First (l : List Int) (k : Nat) : Prop := k < l.length ∧ (∀ j, j < l.length → gi l k ≤ gi l j) ∧ ∀ j, j < k → gi l k < gi l j
theorem First.unique {l : List Int} {k m : Nat} (h : First l k) (h' : First l m) : k = m := by
  rcases Nat.lt_trichotomy k m with hlt | rfl | hlt
  · have := h'.2.2 k hlt; have := h.2.1 m h'.1; omega
  · rfl
  · have := h.2.2 m hlt; have := h'.2.1 k h.1; omega
abbrev st9 (z : Bool) (l : List Int) (e : List D) (a b t m i : Int) : Sl := [(0, .d (.sl 1 z (ints l) e)), (2, .d (.int .i64 t)), (4, .dbox 24 0 [.int .i64 a, .int .i64 b]), (8, .d (.int .i64 m)), (9, .d (.int .i64 i))]
theorem l9 {l : List Int} (hl : Len l) (z : Bool) (e : List D) (a b t : Int) {C : Caller} : ∀ (d i m : Nat), l.length - i = d → i ≤ l.length → m < l.length → (∀ j, j < i → 0 ≤ gi l j ∧ gi l j ≤ 1000000) → (∀ j, j < i → gi l m ≤ gi l j) → (∀ j, j < m → gi l m < gi l j) → ∀ fuel, d < fuel →
    (∃ (k : Nat) (s : Int), evL F C fuel d9 [] [1,1,1,0,1,0,0] (st9 z l e a b t m i) = some (.exit 0 (st9 z l e a b t k s)) ∧ Good l ∧ First l k) ∨
    (evL F C fuel d9 [] [1,1,1,0,1,0,0] (st9 z l e a b t m i) = some (.ret [(6, .d (.int .i64 0)), (7, .d (.int .i64 1900))]) ∧ ¬ Good l)
  | 0, i, m, hd, hi, hm, hg, h1, h2, 0, hf => by omega
  | d + 1, i, m, hd, hi, hm, hg, h1, h2, 0, hf => by omega
  | 0, i, m, hd, hi, hm, hg, h1, h2, fuel + 1, hf => by
    have e0 : i = l.length := by omega
    subst e0
    exact .inl ⟨m, _, evL_end (q9l_4 z l e a b t m _ (by rw [ints_len]; omega)) rfl, hg, hm, h1, h2⟩
  | d + 1, i, m, hd, hi, hm, hg, h1, h2, fuel + 1, hf => by
    have hlt : i < l.length := by omega
    have hw := hl.lt
    have hi1 : (i : Int) < (↑(List.length (ints l)) : Int) := by rw [ints_len]; omega
    by_cases hv : gi l i < 0
    · exact .inr ⟨evL_end (q9l_0 z l e a b t m i _ hi1 (by omega) (ints_int hlt) hv) rfl, fun hG => by have := hG i hlt; omega⟩
    · by_cases hv2 : gi l i > 1000000
      · exact .inr ⟨evL_end (q9l_1 z l e a b t m i _ _ hi1 (by omega) (ints_int hlt) hv (ints_int hlt) hv2) rfl, fun hG => by have := hG i hlt; omega⟩
      · have hw1 : IntKind.wrap .i64 ((i : Int) + 1) = ((i + 1 : Nat) : Int) := by rw [wr _ (by omega) (by omega)]; omega
        have hg' : ∀ j, j < i + 1 → 0 ≤ gi l j ∧ gi l j ≤ 1000000 := fun j hj => by
          by_cases h : j = i
          · subst h; omega
          · exact hg j (by omega)
        by_cases hv3 : gi l i < gi l m
        · have hs := q9l_2 (C := C) (fuel := fuel) z l e a b t m i _ _ _ _ hi1 (by omega) (ints_int hlt) hv (ints_int hlt) hv2 (ints_int hlt) (by omega) (ints_int hm) hv3
          rw [hw1] at hs
          rcases l9 hl z e a b t d (i + 1) i (by omega) (by omega) hlt hg' (fun j hj => by
            by_cases h : j = i
            · subst h; omega
            · have := h1 j (by omega); omega) (fun j hj => by have := h1 j hj; omega) fuel (by omega) with ⟨k, s, h3, h4⟩ | ⟨h3, h4⟩
          · exact .inl ⟨k, s, evL_go hs h3, h4⟩
          · exact .inr ⟨evL_go hs h3, h4⟩
        · have hs := q9l_3 (C := C) (fuel := fuel) z l e a b t m i _ _ _ _ hi1 (by omega) (ints_int hlt) hv (ints_int hlt) hv2 (ints_int hlt) (by omega) (ints_int hm) hv3
          rw [hw1] at hs
          rcases l9 hl z e a b t d (i + 1) m (by omega) (by omega) hm hg' (fun j hj => by
            by_cases h : j = i
            · subst h; omega
            · exact h1 j (by omega)) h2 fuel (by omega) with ⟨k, s, h3, h4⟩ | ⟨h3, h4⟩
          · exact .inl ⟨k, s, evL_go hs h3, h4⟩
          · exact .inr ⟨evL_go hs h3, h4⟩
/-- What is to be answered. -/
inductive Answer (l : List Int) (a b t : Int) : Int → Int → Prop
  | err (h : l.length = 0 ∨ ¬ Good l ∨ RatioOk a b = false ∨ t < 0) : Answer l a b t 0 1900
  | age (h0 : l.length ≠ 0) (h : Good l) (h1 : RatioOk a b = true) (h2 : 0 ≤ t) (h3 : a ≤ t % (a + b)) : Answer l a b t 0 0
  | weight (k : Nat) (h0 : l.length ≠ 0) (h : Good l) (h1 : RatioOk a b = true) (h2 : 0 ≤ t) (h3 : t % (a + b) < a) (h4 : First l k) : Answer l a b t k 0
theorem Answer.unique {l : List Int} {a b t r1 r2 s1 s2 : Int} (h : Answer l a b t r1 r2) (h' : Answer l a b t s1 s2) : r1 = s1 ∧ r2 = s2 := by
  cases h with
  | err h =>
    cases h' with
    | err h' => exact ⟨rfl, rfl⟩
    | age h0 h1 h2 h3 h4 => exfalso; rcases h with h | h | h | h; exact h0 h; exact h h1; rw [h2] at h; cases h; omega
    | weight k h0 h1 h2 h3 h4 h5 => exfalso; rcases h with h | h | h | h; exact h0 h; exact h h1; rw [h2] at h; cases h; omega
  | age g0 g1 g2 g3 g4 =>
    cases h' with
    | err h => exfalso; rcases h with h | h | h | h; exact g0 h; exact h g1; rw [g2] at h; cases h; omega
    | age h0 h1 h2 h3 h4 => exact ⟨rfl, rfl⟩
    | weight k h0 h1 h2 h3 h4 h5 => omega
  | weight k g0 g1 g2 g3 g4 g5 =>
    cases h' with
    | err h => exfalso; rcases h with h | h | h | h; exact g0 h; exact h g1; rw [g2] at h; cases h; omega
    | age h0 h1 h2 h3 h4 => omega
    | weight m h0 h1 h2 h3 h4 h5 => exact ⟨by rw [g5.unique h5], rfl⟩
abbrev args3 (z : Bool) (l : List Int) (e : List D) (a b t : Int) : List IV := [.d (.sl 1 z (ints l) e), .d (.agg [.int .i64 a, .int .i64 b]), .d (.int .i64 t)]
theorem s9 {l : List Int} (hl : Len l) (z : Bool) (e : List D) (a b t : Int) (n : Nat) (hn : l.length ≤ n) : ∃ r1 r2, evF F (n + 2) 9 (args3 z l e a b t) = some (.tup [.d (.int .i64 r1), .d (.int .i64 r2)], args3 z l e a b t) ∧ Answer l a b t r1 r2 := by
  rw [at_ (d := d9) (by rfl)]
  by_cases h0 : l.length = 0
  · exact ⟨_, _, q9_0 z l e a b t (by rw [ints_len, h0]; rfl), .err (.inl h0)⟩
  have hb : ((↑(List.length (ints l)) : Int) == 0) = false := by rw [ints_len]; exact beq_eq_false_iff_ne.2 (by omega)
  have h20 := s20 a b n
  cases hr : RatioOk a b with
  | false =>
    rw [hr] at h20
    exact ⟨_, _, q9_5 z l e a b t false _ hb h20 rfl, .err (.inr (.inr (.inl hr)))⟩
  | true =>
    rw [hr] at h20
    have hR := ratio_true hr
    by_cases ht : t < 0
    · exact ⟨_, _, q9_1 z l e a b t true _ hb h20 rfl ht, .err (.inr (.inr (.inr ht)))⟩
    rcases l9 (C := evF F (n + 1)) hl z e a b t l.length 0 0 (Nat.sub_zero _) (Nat.zero_le _) (Nat.pos_of_ne_zero h0) (fun j h => by omega) (fun j h => by omega) (fun j h => by omega) (n + 2) (by omega) with ⟨k, s, h2, h3, h4⟩ | ⟨h2, h3⟩
    · have hw : IntKind.wrap .i64 (a + b) = a + b := wr _ (by omega) (by omega)
      have hm : Int.tmod t (a + b) = t % (a + b) := Int.tmod_eq_emod_of_nonneg (by omega)
      have hlp := evL_at (p := [1,1,1,0,1]) (p' := [1,1,1,0,1,0,0]) (id := 0) (by kernel_rfl) h2 rfl
      by_cases hc : t % (a + b) < a
      · exact ⟨_, _, q9_3 z l e a b t true _ _ _ _ _ _ _ _ _ hb h20 rfl ht hlp (by rw [hw]; simp; omega) (by rw [hw, hm]; omega), .weight k h0 h3 hr (by omega) hc h4⟩
      · exact ⟨_, _, q9_2 z l e a b t true _ _ _ _ _ _ _ _ _ hb h20 rfl ht hlp (by rw [hw]; simp; omega) (by rw [hw, hm]; omega), .age h0 h3 hr (by omega) (by omega)⟩
    · have hlp := evL_at (p := [1,1,1,0,1]) (p' := [1,1,1,0,1,0,0]) (id := 0) (by kernel_rfl) h2 rfl
      exact ⟨_, _, q9_4 z l e a b t true _ _ _ hb h20 rfl ht hlp, .err (.inr (.inl h3))⟩
/-! ### The program's answer -/
theorem l15 {l : List Int} (hl : Len l) (z : Bool) (e : List D) {C : Caller} : ∀ (d i : Nat) (m : Int), l.length - i = d → i ≤ l.length → (∃ j, j < l.length ∧ m = gi l j) → (∀ j, j < i → m ≤ gi l j) → ∀ fuel, d < fuel →
    ∃ (k s : Int), evL F C fuel d15 [] [1,1,1,0,1,0,0] [(0, .d (.sl 1 z (ints l) e)), (3, .d (.int .i64 m)), (4, .d (.int .i64 i))] = some (.exit 0 [(0, .d (.sl 1 z (ints l) e)), (3, .d (.int .i64 k)), (4, .d (.int .i64 s))]) ∧ (∃ j, j < l.length ∧ k = gi l j) ∧ ∀ j, j < l.length → k ≤ gi l j
  | 0, i, m, hd, hi, hm, h1, 0, hf => by omega
  | d + 1, i, m, hd, hi, hm, h1, 0, hf => by omega
  | 0, i, m, hd, hi, hm, h1, fuel + 1, hf => by
    have e0 : i = l.length := by omega
    subst e0
    exact ⟨m, _, evL_end (q15l_1 z l e m _ (by rw [ints_len]; omega)) rfl, hm, h1⟩
  | d + 1, i, m, hd, hi, hm, h1, fuel + 1, hf => by
    have hlt : i < l.length := by omega
    have hw := hl.lt
    have hw1 : IntKind.wrap .i64 ((i : Int) + 1) = ((i + 1 : Nat) : Int) := by rw [wr _ (by omega) (by omega)]; omega
    have hs := q15l_0 (C := C) (fuel := fuel) z l e m i _ (by rw [ints_len]; omega) (by omega) (ints_int hlt)
    rw [hw1, if_neg (by decide)] at hs
    obtain ⟨k, s, h3, h4⟩ := l15 hl z e d (i + 1) (if gi l i < m then gi l i else m) (by omega) (by omega) (by split; exact ⟨i, hlt, rfl⟩; exact hm) (fun j hj => by
      by_cases h : j = i
      · subst h; split <;> omega
      · have := h1 j (by omega); split <;> omega) fuel (by omega)
    exact ⟨k, s, evL_go hs h3, h4⟩
theorem l16 {l : List Int} (hl : Len l) (z : Bool) (e : List D) {C : Caller} : ∀ (d i : Nat) (m : Int), l.length - i = d → i ≤ l.length → (∃ j, j < l.length ∧ m = gi l j) → (∀ j, j < i → gi l j ≤ m) → ∀ fuel, d < fuel →
    ∃ (k s : Int), evL F C fuel d16 [] [1,1,1,0,1,0,0] [(0, .d (.sl 1 z (ints l) e)), (3, .d (.int .i64 m)), (4, .d (.int .i64 i))] = some (.exit 0 [(0, .d (.sl 1 z (ints l) e)), (3, .d (.int .i64 k)), (4, .d (.int .i64 s))]) ∧ (∃ j, j < l.length ∧ k = gi l j) ∧ ∀ j, j < l.length → gi l j ≤ k
  | 0, i, m, hd, hi, hm, h1, 0, hf => by omega
  | d + 1, i, m, hd, hi, hm, h1, 0, hf => by omega
  | 0, i, m, hd, hi, hm, h1, fuel + 1, hf => by
    have e0 : i = l.length := by omega
    subst e0
    exact ⟨m, _, evL_end (q16l_1 z l e m _ (by rw [ints_len]; omega)) rfl, hm, h1⟩
  | d + 1, i, m, hd, hi, hm, h1, fuel + 1, hf => by
    have hlt : i < l.length := by omega
    have hw := hl.lt
    have hw1 : IntKind.wrap .i64 ((i : Int) + 1) = ((i + 1 : Nat) : Int) := by rw [wr _ (by omega) (by omega)]; omega
    have hs := q16l_0 (C := C) (fuel := fuel) z l e m i _ (by rw [ints_len]; omega) (by omega) (ints_int hlt)
    rw [hw1, if_pos rfl] at hs
    obtain ⟨k, s, h3, h4⟩ := l16 hl z e d (i + 1) (if gi l i > m then gi l i else m) (by omega) (by omega) (by split; exact ⟨i, hlt, rfl⟩; exact hm) (fun j hj => by
      by_cases h : j = i
      · subst h; split <;> omega
      · have := h1 j (by omega); split <;> omega) fuel (by omega)
    exact ⟨k, s, evL_go hs h3, h4⟩
theorem s15 {l : List Int} (hl : Len l) (h0 : l.length ≠ 0) (z : Bool) (e : List D) (n : Nat) (hn : l.length ≤ n) : ∃ k, evF F (n + 1) 15 [.d (.sl 1 z (ints l) e)] = some (.d (.int .i64 k), [.d (.sl 1 z (ints l) e)]) ∧ (∃ j, j < l.length ∧ k = gi l j) ∧ ∀ j, j < l.length → k ≤ gi l j := by
  rw [at_ (d := d15) (by rfl)]
  obtain ⟨k, s, h1, h2⟩ := l15 (C := evF F n) hl z e (l.length - 1) 1 (gi l 0) rfl (by omega) ⟨0, by omega, rfl⟩ (fun j hj => (Nat.lt_one_iff.1 hj) ▸ Int.le_refl _) (n + 1) (by omega)
  exact ⟨k, q15_0 z l e (gi l 0) _ _ _ _ _ (by rw [ints_len]; omega) (ints_at (by omega)) (evL_at (p := [1,1,1,0,1]) (p' := [1,1,1,0,1,0,0]) (id := 0) (by kernel_rfl) h1 rfl), h2⟩
theorem s16 {l : List Int} (hl : Len l) (h0 : l.length ≠ 0) (z : Bool) (e : List D) (n : Nat) (hn : l.length ≤ n) : ∃ k, evF F (n + 1) 16 [.d (.sl 1 z (ints l) e)] = some (.d (.int .i64 k), [.d (.sl 1 z (ints l) e)]) ∧ (∃ j, j < l.length ∧ k = gi l j) ∧ ∀ j, j < l.length → gi l j ≤ k := by
  rw [at_ (d := d16) (by rfl)]
  obtain ⟨k, s, h1, h2⟩ := l16 (C := evF F n) hl z e (l.length - 1) 1 (gi l 0) rfl (by omega) ⟨0, by omega, rfl⟩ (fun j hj => (Nat.lt_one_iff.1 hj) ▸ Int.le_refl _) (n + 1) (by omega)
  exact ⟨k, q16_0 z l e (gi l 0) _ _ _ _ _ (by rw [ints_len]; omega) (ints_at (by omega)) (evL_at (p := [1,1,1,0,1]) (p' := [1,1,1,0,1,0,0]) (id := 0) (by kernel_rfl) h1 rfl), h2⟩
abbrev st19 (z : Bool) (l : List Int) (e : List D) (x i : Int) : Sl := [(0, .d (.sl 1 z (ints l) e)), (1, .d (.int .i64 x)), (7, .d (.int .i64 l.length)), (8, .d (.int .i64 i))]
theorem l19 {l : List Int} (hl : Len l) (z : Bool) (e : List D) (x : Int) (hx : ∃ j, j < l.length ∧ x = gi l j) {C : Caller} : ∀ (d i : Nat), l.length - i = d → i ≤ l.length → (∀ j, j < i → x ≠ gi l j) → ∀ fuel, d < fuel →
    ∃ k : Nat, evL F C fuel d19 [] [1,0,1,0,0] (st19 z l e x i) = some (.ret [(4, .d (.int .i64 k))]) ∧ k < l.length ∧ x = gi l k ∧ ∀ j, j < k → x ≠ gi l j
  | 0, i, hd, hi, h1, 0, hf => by omega
  | d + 1, i, hd, hi, h1, 0, hf => by omega
  | 0, i, hd, hi, h1, fuel + 1, hf => by
    obtain ⟨j, h2, h3⟩ := hx
    exact absurd h3 (h1 j (by omega))
  | d + 1, i, hd, hi, h1, fuel + 1, hf => by
    have hlt : i < l.length := by omega
    have hw := hl.lt
    have hw1 : IntKind.wrap .i64 ((i : Int) + 1) = ((i + 1 : Nat) : Int) := by rw [wr _ (by omega) (by omega)]; omega
    by_cases hv : x = gi l i
    · exact ⟨i, evL_end (q19l_0 z l e x _ i _ (by omega) (by omega) (ints_int hlt) (by simp [hv])) rfl, hlt, hv, h1⟩
    · have hs := q19l_1 (C := C) (fuel := fuel) z l e x l.length i _ (by omega) (by omega) (ints_int hlt) (by simp [hv])
      rw [hw1] at hs
      obtain ⟨k, h3, h4⟩ := l19 hl z e x hx d (i + 1) (by omega) (by omega) (fun j hj => by
        by_cases h : j = i
        · subst h; exact hv
        · exact h1 j (by omega)) fuel (by omega)
      exact ⟨k, evL_go hs h3, h4⟩
theorem s19 {l : List Int} (hl : Len l) (z : Bool) (e : List D) (x : Int) (hx : ∃ j, j < l.length ∧ x = gi l j) (n : Nat) (hn : l.length ≤ n) : ∃ k : Nat, evF F (n + 1) 19 [.d (.sl 1 z (ints l) e), .d (.int .i64 x)] = some (.d (.int .i64 k), [.d (.sl 1 z (ints l) e), .d (.int .i64 x)]) ∧ k < l.length ∧ x = gi l k ∧ ∀ j, j < k → x ≠ gi l j := by
  rw [at_ (d := d19) (by rfl)]
  obtain ⟨k, h1, h2⟩ := l19 (C := evF F n) hl z e x hx l.length 0 (Nat.sub_zero _) (Nat.zero_le _) (fun j hj => by omega) (n + 1) (by omega)
  refine ⟨k, q19_1 z l e x _ (evL_at (p := [1,0,1]) (p' := [1,0,1,0,0]) (id := 0) (n := n) (o := .ret [(4, .d (.int .i64 k))]) (by kernel_rfl) ?_ rfl), h2⟩
  rw [ints_len]
  exact h1
theorem add_small : ∀ a b : Fin 21, floatBits .add .f64 (floatOfInt .f64 (a.val : Int)) (floatOfInt .f64 (b.val : Int)) = some (floatOfInt .f64 ((a.val + b.val : Nat) : Int)) := by decide +kernel
theorem back_small : ∀ n : Fin 41, floatToIntVal .f64 (floatOfInt .f64 (n.val : Int)) .i64 = some (n.val : Int) := by decide +kernel
theorem s18 (a b t : Int) (hr : RatioOk a b = true) (ht : 0 ≤ t) (n : Nat) : evF F (n + 1) 18 [.d (.cpx .f64 (floatOfInt .f64 a) (floatOfInt .f64 b)), .d (.int .i64 t)] = some (.d (.bool (decide (t % (a + b) < a))), [.d (.cpx .f64 (floatOfInt .f64 a) (floatOfInt .f64 b)), .d (.int .i64 t)]) := by
  rw [at_ (d := d18) (by rfl)]
  have hR := ratio_true hr
  obtain ⟨x, rfl⟩ := Int.eq_ofNat_of_zero_le hR.1
  obtain ⟨y, rfl⟩ := Int.eq_ofNat_of_zero_le (show 0 ≤ b by omega)
  have h1 := add_small ⟨x, by omega⟩ ⟨y, by omega⟩
  have h2 := back_small ⟨x + y, by omega⟩
  have h3 := back_small ⟨x, by omega⟩
  simp only at h1 h2 h3
  have hm : Int.tmod t ((x + y : Nat) : Int) = t % (↑x + ↑y) := by rw [Int.tmod_eq_emod_of_nonneg ht, Int.natCast_add]
  by_cases hc : t % (↑x + ↑y) < (x : Int)
  · rw [decide_eq_true hc]
    refine q18_0 _ _ t ?_ ?_ ?_ ?_ ?_
    · rw [h1]; rfl
    · rw [h1]; simp only [Option.getD_some]; rw [h2]; rfl
    · rw [h1]; simp only [Option.getD_some]; rw [h2]; simp; omega
    · rw [h3]; rfl
    · rw [h1]; simp only [Option.getD_some]; rw [h2, h3]; simp only [Option.getD_some]; rw [hm]; exact hc
  · rw [decide_eq_false hc]
    refine q18_1 _ _ t ?_ ?_ ?_ ?_ ?_
    · rw [h1]; rfl
    · rw [h1]; simp only [Option.getD_some]; rw [h2]; rfl
    · rw [h1]; simp only [Option.getD_some]; rw [h2]; simp; omega
    · rw [h3]; rfl
    · rw [h1]; simp only [Option.getD_some]; rw [h2, h3]; simp only [Option.getD_some]; rw [hm]; exact hc
theorem s8 {l : List Int} (hl : Len l) (z : Bool) (e : List D) (a b t : Int) (n : Nat) (hn : l.length ≤ n) : ∃ r1 r2, evF F (n + 2) 8 (args3 z l e a b t) = some (.tup [.d (.int .i64 r1), .d (.int .i64 r2)], args3 z l e a b t) ∧ Answer l a b t r1 r2 := by
  rw [at_ (d := d8) (by rfl)]
  by_cases h0 : l.length = 0
  · exact ⟨_, _, q8_0 z l e a b t (by rw [ints_len, h0]; rfl), .err (.inl h0)⟩
  have hb : ((↑(List.length (ints l)) : Int) == 0) = false := by rw [ints_len]; exact beq_eq_false_iff_ne.2 (by omega)
  obtain ⟨mn, h1, ⟨jn, hj1, hj2⟩, h2⟩ := s15 hl h0 z e n hn
  obtain ⟨mx, h3, ⟨jx, hj3, hj4⟩, h4⟩ := s16 hl h0 z e n hn
  by_cases c1 : mn < 0
  · exact ⟨_, _, q8_1 z l e a b t _ _ hb h1 c1, .err (.inr (.inl fun hG => by have := hG jn hj1; omega))⟩
  by_cases c2 : mx > 1000000
  · exact ⟨_, _, q8_2 z l e a b t _ _ _ _ hb h1 c1 h3 c2, .err (.inr (.inl fun hG => by have := hG jx hj3; omega))⟩
  have hG : Good l := fun j hj => by have := h2 j hj; have := h4 j hj; omega
  have h17 := s17 a b n
  cases hr : RatioOk a b with
  | false =>
    rw [hr] at h17
    exact ⟨_, _, q8_6 z l e a b t _ _ _ _ false _ hb h1 c1 h3 c2 h17 rfl, .err (.inr (.inr (.inl hr)))⟩
  | true =>
    rw [hr] at h17
    by_cases ht : t < 0
    · exact ⟨_, _, q8_3 z l e a b t _ _ _ _ true _ hb h1 c1 h3 c2 h17 rfl ht, .err (.inr (.inr (.inr ht)))⟩
    have h18 := s18 a b t hr (by omega) n
    by_cases hc : t % (a + b) < a
    · rw [decide_eq_true hc] at h18
      obtain ⟨k, h19, hk1, hk2, hk3⟩ := s19 hl z e mn ⟨jn, hj1, hj2⟩ n hn
      refine ⟨_, _, q8_4 z l e a b t _ _ _ _ true _ true _ _ _ _ _ _ _ hb h1 c1 h3 c2 h17 rfl ht h18 rfl h1 h19, .weight k h0 hG hr (by omega) hc ⟨hk1, fun j hj => by rw [← hk2]; exact h2 j hj, fun j hj => ?_⟩⟩
      have := h2 j (by omega)
      have := hk3 j hj
      rw [← hk2]; omega
    · rw [decide_eq_false hc] at h18
      exact ⟨_, _, q8_5 z l e a b t _ _ _ _ true _ false _ _ hb h1 c1 h3 c2 h17 rfl ht h18 rfl, .age h0 hG hr (by omega) (by omega)⟩
set_option maxHeartbeats 4000000 in
theorem s12_40 : evF F 40 12 [] = some (.d (.bool true), []) := by kernel_rfl
end Go.Proofs.Ytoghhgceanlkkaa.Ab
