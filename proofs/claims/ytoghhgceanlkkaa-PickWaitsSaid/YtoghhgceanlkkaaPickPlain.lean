/- Whose turn it is, as a plain statement over lists: the first one by age, or the first of the least by weight. No condition beyond the statements' own. -/
import Derived.Test.YtoghhgceanlkkaaQx1
import Derived.Test.YtoghhgceanlkkaaQx2
import Derived.Test.YtoghhgceanlkkaaQx3
set_option linter.unusedVariables false
set_option linter.unusedSimpArgs false
namespace Go.Proofs.Ytoghhgceanlkkaa.PickPlain
open Go.RowKit Go.Proofs.Ytoghhgceanlkkaa.Q Go.Proofs.YtoghhgceanlkkaaW.PrintWords Go.Proofs.YtoghhgceanlkkaaW.PrintLast Go.Proofs.YtoghhgceanlkkaaW.PrintMore

theorem awake_ev : Ev (fun k => quaerelaw19_awake.f k) true := Ev.of quaerelaw19_awake.mono (show quaerelaw19_awake.f 60 = some true by decide +kernel)
theorem num_eq (a : Int) : quaerelaw0_Num.f a = some a := by rw [quaerelaw0_Num.f]
theorem bind_now {α β : Type} (a : α) (f : α → Option β) : (some a).bind f = f a := by rw [Option.bind_some]
theorem wrap_small {n : Int} (h0 : -9223372036854775808 ≤ n) (h1 : n ≤ 9223372036854775807) : wrap64 n = n := by unfold wrap64; omega
theorem u64_eq (a : Int) : IntKind.u64.wrap a = a % 18446744073709551616 := by rfl
theorem tmod_u64 (a : Int) (n : Int) (h : 0 < n) (hn : n ≤ 1000000) : wrap64 (Int.tmod (IntKind.u64.wrap a) n) = (a % 18446744073709551616) % n := by
  rw [u64_eq, Int.tmod_eq_emod_of_nonneg (by omega)]
  have := Int.emod_nonneg (a % 18446744073709551616) (show n ≠ 0 by omega)
  have := Int.emod_lt_of_pos (a % 18446744073709551616) h
  exact wrap_small (by omega) (by omega)
/-! ### The ratio's parts as floats -/
theorem add_small : ∀ a b : Fin 21, floatBits .add .f64 (floatOfInt .f64 (a.val : Int)) (floatOfInt .f64 (b.val : Int)) = some (floatOfInt .f64 ((a.val + b.val : Nat) : Int)) := by decide +kernel
theorem back_small : ∀ n : Fin 41, floatToIntVal .f64 (floatOfInt .f64 (n.val : Int)) .i64 = some (n.val : Int) := by decide +kernel
theorem weight_eq (a b : Nat) (ha : a ≤ 20) (h0 : 1 ≤ b) (hb : b ≤ 20) (t : Int) (ht : 0 ≤ t) :
    pick_byWeight.f (floatOfInt .f64 (a : Int), floatOfInt .f64 (b : Int)) t = some (decide (t % ((a + b : Nat) : Int) < (a : Int))) := by
  have h1 := add_small ⟨a, by omega⟩ ⟨b, by omega⟩
  have h2 := back_small ⟨a + b, by omega⟩
  have h3 := back_small ⟨a, by omega⟩
  simp only at h1 h2 h3
  unfold pick_byWeight.f
  rw [h1]
  rw [bind_now, h2, bind_now, h3, bind_now, if_neg (by omega), Int.tmod_eq_emod_of_nonneg ht]
/-! ### The least, and where it stands -/
theorem mn_le (a b : Int) : mn a b ≤ a ∧ mn a b ≤ b ∧ (mn a b = a ∨ mn a b = b) := by unfold mn; split <;> omega
theorem mx_ge (a b : Int) : a ≤ mx a b ∧ b ≤ mx a b ∧ (mx a b = a ∨ mx a b = b) := by unfold mx; split <;> omega
theorem min_l0 (l : List Int) (hl : l.length ≤ 1000000000) : ∀ (d i : Nat) (m : Int), l.length - i = d → i ≤ l.length → (∃ j, j < l.length ∧ m = rd l (j : Int)) → (∀ j : Nat, j < i → m ≤ rd l (j : Int)) →
    ∃ r, Ev (fun k => slices_Min_int_int.l0 k l m (i : Int)) r ∧ (∃ j, j < l.length ∧ r = rd l (j : Int)) ∧ ∀ j : Nat, j < l.length → r ≤ rd l (j : Int) := by
  intro d
  induction d with
  | zero =>
    intro i m h hi hm hle
    refine ⟨m, Ev.step (fun k => by rw [slices_Min_int_int.l0]) ?_, hm, fun j hj => hle j (by omega)⟩
    simp only [if_neg (show ¬ ((i : Int) < (l.length : Int)) by omega)]
    exact Ev.now _
  | succ d ih =>
    intro i m h hi hm hle
    obtain ⟨h1, h2, h3⟩ := mn_le m (rd l (i : Int))
    obtain ⟨r, hr, h4, h5⟩ := ih (i + 1) (mn m (rd l (i : Int))) (by omega) (by omega) (by
      rcases h3 with e | e
      · rw [e]; exact hm
      · rw [e]; exact ⟨i, by omega, rfl⟩) (by
      intro j hj
      by_cases e : j = i
      · rw [e]; exact h2
      · exact Int.le_trans h1 (hle j (by omega)))
    refine ⟨r, Ev.step (fun k => by rw [slices_Min_int_int.l0]) ?_, h4, h5⟩
    simp only [if_pos (show ((i : Int) < (l.length : Int)) by omega), if_pos (show (0 : Int) ≤ (i : Int) by omega)]
    rw [show wrap64 ((i : Int) + 1) = ((i + 1 : Nat) : Int) by rw [wrap_small (by omega) (by omega)]; omega]
    exact hr
theorem max_l0 (l : List Int) (hl : l.length ≤ 1000000000) : ∀ (d i : Nat) (m : Int), l.length - i = d → i ≤ l.length → (∃ j, j < l.length ∧ m = rd l (j : Int)) →
    ∃ r, Ev (fun k => slices_Max_int_int.l0 k l m (i : Int)) r ∧ (∃ j, j < l.length ∧ r = rd l (j : Int)) := by
  intro d
  induction d with
  | zero =>
    intro i m h hi hm
    refine ⟨m, Ev.step (fun k => by rw [slices_Max_int_int.l0]) ?_, hm⟩
    simp only [if_neg (show ¬ ((i : Int) < (l.length : Int)) by omega)]
    exact Ev.now _
  | succ d ih =>
    intro i m h hi hm
    obtain ⟨h1, h2, h3⟩ := mx_ge m (rd l (i : Int))
    obtain ⟨r, hr, h4⟩ := ih (i + 1) (mx m (rd l (i : Int))) (by omega) (by omega) (by
      rcases h3 with e | e
      · rw [e]; exact hm
      · rw [e]; exact ⟨i, by omega, rfl⟩)
    refine ⟨r, Ev.step (fun k => by rw [slices_Max_int_int.l0]) ?_, h4⟩
    simp only [if_pos (show ((i : Int) < (l.length : Int)) by omega), if_pos (show (0 : Int) ≤ (i : Int) by omega)]
    rw [show wrap64 ((i : Int) + 1) = ((i + 1 : Nat) : Int) by rw [wrap_small (by omega) (by omega)]; omega]
    exact hr
theorem index_l0 (l : List Int) (hl : l.length ≤ 1000000000) (m : Int) (hm : ∃ j, j < l.length ∧ m = rd l (j : Int)) : ∀ (d i : Nat), l.length - i = d → i ≤ l.length → (∀ j : Nat, j < i → m ≠ rd l (j : Int)) →
    ∃ r : Nat, Ev (fun k => slices_Index_int_int.l0 k l m (l.length : Int) (i : Int)) (r : Int) ∧ r < l.length ∧ m = rd l (r : Int) ∧ ∀ j : Nat, j < r → m ≠ rd l (j : Int) := by
  intro d
  induction d with
  | zero =>
    intro i h hi hne
    obtain ⟨j, hj, e⟩ := hm
    exact absurd e (hne j (by omega))
  | succ d ih =>
    intro i h hi hne
    by_cases e : m = rd l (i : Int)
    · refine ⟨i, Ev.step (fun k => by rw [slices_Index_int_int.l0]) ?_, by omega, e, hne⟩
      simp only [if_pos (show ((i : Int) < (l.length : Int)) by omega), if_pos (show (0 : Int) ≤ (i : Int) by omega), if_pos e]
      exact Ev.now _
    · obtain ⟨r, hr, h4⟩ := ih (i + 1) (by omega) (by omega) (by
        intro j hj
        by_cases q : j = i
        · rw [q]; exact e
        · exact hne j (by omega))
      refine ⟨r, Ev.step (fun k => by rw [slices_Index_int_int.l0]) ?_, h4⟩
      simp only [if_pos (show ((i : Int) < (l.length : Int)) by omega), if_pos (show (0 : Int) ≤ (i : Int) by omega), if_neg e]
      rw [show wrap64 ((i : Int) + 1) = ((i + 1 : Nat) : Int) by rw [wrap_small (by omega) (by omega)]; omega]
      exact hr
/-- The first of the least. -/
def First (l : List Int) (k : Nat) : Prop := (∀ j : Nat, j < l.length → rd l (k : Int) ≤ rd l (j : Int)) ∧ ∀ j : Nat, j < k → rd l (k : Int) < rd l (j : Int)
/-- What is told of weights that may be. -/
theorem next_eq (l : List Int) (a b : Nat) (t : Int) (hl : 1 ≤ l.length) (hl2 : l.length ≤ 1000000000) (hr : ∀ j : Nat, j < l.length → 0 ≤ rd l (j : Int) ∧ rd l (j : Int) ≤ 1000000)
    (ha : a ≤ 20) (h0 : 1 ≤ b) (hb : b ≤ 20) (ht : 0 ≤ t) :
    ∃ k : Nat, Ev (fun n => pick_Next.f n l (a : Int) (b : Int) t) ((k : Int), 0) ∧ k < l.length ∧ (¬ (t % ((a + b : Nat) : Int) < (a : Int)) → k = 0) ∧ (t % ((a + b : Nat) : Int) < (a : Int) → First l k) := by
  obtain ⟨m, hm, ⟨jm, h1, h2⟩, h3⟩ := min_l0 l hl2 (l.length - 1) 1 (rd l 0) rfl hl ⟨0, by omega, rfl⟩ (by
    intro j hj; obtain rfl : j = 0 := by omega
    exact Int.le_refl _)
  obtain ⟨x, hx, ⟨jx, h4, h5⟩⟩ := max_l0 l hl2 (l.length - 1) 1 (rd l 0) rfl hl ⟨0, by omega, rfl⟩
  have hmin : Ev (fun k => slices_Min_int_int.f k l) m := by
    simp only [slices_Min_int_int.f, if_neg (show ¬ ((l.length : Int) < 1) by omega), if_pos (show 0 < (l.length : Int) by omega)]
    exact hm
  have hmax : Ev (fun k => slices_Max_int_int.f k l) x := by
    simp only [slices_Max_int_int.f, if_neg (show ¬ ((l.length : Int) < 1) by omega), if_pos (show 0 < (l.length : Int) by omega)]
    exact hx
  have hm0 := hr jm h1
  have hx0 := hr jx h4
  have hratio : pick_RatioMay.f (a : Int) (b : Int) = some true := by
    unfold pick_RatioMay.f
    rw [if_pos (by omega), if_pos (by omega), if_pos (by omega), decide_eq_true (by omega)]
  have go : ∀ v, Ev (fun n => pick_Next.j0 n l t false (a : Int) (b : Int)) v → Ev (fun n => pick_Next.f n l (a : Int) (b : Int) t) v := by
    intro v hv
    simp only [pick_Next.f, if_neg (show ¬ ((l.length : Int) = 0) by omega)]
    refine Ev.bind hmin ?_
    simp only [if_neg (show ¬ (m < 0) by omega)]
    refine Ev.bind hmax ?_
    simp only [if_neg (show ¬ (x > 1000000) by omega), hratio, bind_now, if_true]
    rw [decide_eq_false (show ¬ (t < 0) by omega)]
    exact hv
  have hw := weight_eq a b ha h0 hb t ht
  by_cases q : t % ((a + b : Nat) : Int) < (a : Int)
  · obtain ⟨r, hr1, hr2, hr3, hr4⟩ := index_l0 l hl2 m ⟨jm, h1, h2⟩ (l.length - 0) 0 rfl (by omega) (by intro j hj; omega)
    refine ⟨r, go _ (Ev.step (fun k => by rw [pick_Next.j0]) ?_), hr2, fun h => absurd q h, fun _ => ⟨fun j hj => by rw [← hr3]; exact h3 j hj, fun j hj => ?_⟩⟩
    · simp only [Bool.false_eq_true, if_false, hw, bind_now, decide_eq_true q, if_true]
      refine Ev.bind hmin ?_
      simp only [slices_Index_int_int.f]
      exact Ev.bind hr1 (Ev.now _)
    · have := h3 j (by omega); have := hr4 j hj; rw [hr3] at this; rw [← hr3] at this ⊢; omega
  · refine ⟨0, go _ (Ev.step (fun k => by rw [pick_Next.j0]) ?_), by omega, fun _ => rfl, fun h => absurd h q⟩
    simp only [Bool.false_eq_true, if_false, hw, bind_now, decide_eq_false q]
    exact Ev.now _
theorem ratio_eq (a0 a1 : Int) : ∃ a b : Nat, quaerelaw19_ratio.f a0 a1 = some ((a : Int), (b : Int)) ∧ a ≤ 20 ∧ 1 ≤ b ∧ b ≤ 20 ∧ (a : Int) = (a0 % 18446744073709551616) % 21 := by
  unfold quaerelaw19_ratio.f
  rw [tmod_u64 a0 21 (by decide) (by decide), tmod_u64 a1 20 (by decide) (by decide)]
  refine ⟨((a0 % 18446744073709551616) % 21).toNat, (1 + (a1 % 18446744073709551616) % 20).toNat, ?_, by omega, by omega, by omega, by omega⟩
  rw [wrap_small (by omega) (by omega)]
  congr 2
  · omega
  · omega

/-! ### PickFair -/
/-- How many of so many turns in a row are the first one's by age. -/
def aged (n a : Int) (t : Nat) : Nat → Nat
  | 0 => 0
  | m + 1 => aged n a t m + if ¬ (((t + m : Nat) : Int) % n < a) then 1 else 0
theorem aged_first (n a : Int) (t m : Nat) : aged n a t (m + 1) = (if ¬ ((t : Int) % n < a) then 1 else 0) + aged n a (t + 1) m := by
  induction m with
  | zero => simp [aged]
  | succ m ih =>
    rw [aged, ih, aged, show t + 1 + m = t + (m + 1) by omega, Nat.add_assoc]
theorem aged_shift (n a : Int) (m : Nat) (hm : (m : Int) = n) (h : 0 < n) : ∀ t, aged n a t m = aged n a 0 m := by
  intro t
  induction t with
  | zero => rfl
  | succ t ih =>
    rw [← ih]
    have h1 := aged_first n a t m
    have h2 : aged n a t (m + 1) = aged n a t m + if ¬ (((t + m : Nat) : Int) % n < a) then 1 else 0 := rfl
    have h3 : ((t + m : Nat) : Int) % n = (t : Int) % n := by rw [Int.natCast_add, hm, Int.add_emod_right]
    rw [h3] at h2
    omega
theorem aged_low (n a : Int) : ∀ m : Nat, (m : Int) ≤ n → (m : Int) ≤ a → 0 ≤ a → aged n a 0 m = 0 := by
  intro m
  induction m with
  | zero => intros; rfl
  | succ m ih =>
    intro h1 h2 h3
    rw [aged, ih (by omega) (by omega) h3, if_neg]
    rw [Nat.zero_add, Int.emod_eq_of_lt (by omega) (by omega)]
    omega
theorem aged_all (a b : Nat) : ∀ m : Nat, m ≤ b → aged ((a + b : Nat) : Int) (a : Int) 0 (a + m) = m := by
  intro m
  induction m with
  | zero => intro _; exact aged_low _ _ a (by omega) (by omega) (by omega)
  | succ m ih =>
    intro h
    rw [← Nat.add_assoc, aged, ih (by omega), if_pos]
    rw [Nat.zero_add, Int.emod_eq_of_lt (by omega) (by omega)]
    omega
theorem fair_l0 (a b t : Nat) (ha : a ≤ 20) (h0 : 1 ≤ b) (hb : b ≤ 20) (ht : t < 100000) : ∀ (d i : Nat), a + b - i = d → i ≤ a + b →
    Ev (fun k => quaerelaw19_PickFair.l0 k (t : Int) ((aged ((a + b : Nat) : Int) (a : Int) t i : Nat) : Int) (i : Int) (a : Int) (b : Int)) true := by
  have hb0 : ∀ m, aged ((a + b : Nat) : Int) (a : Int) t m ≤ m := by
    intro m
    induction m with
    | zero => exact Nat.le_refl _
    | succ m ih => rw [aged]; split <;> omega
  have ew : wrap64 ((a : Int) + (b : Int)) = ((a + b : Nat) : Int) := by rw [wrap_small (by omega) (by omega)]; omega
  intro d
  induction d with
  | zero =>
    intro i h hi
    obtain rfl : i = a + b := by omega
    refine Ev.step (fun k => by rw [quaerelaw19_PickFair.l0]) ?_
    simp only [ew, if_neg (show ¬ (((a + b : Nat) : Int) < ((a + b : Nat) : Int)) by omega)]
    have := aged_all a b b (Nat.le_refl _)
    rw [aged_shift _ _ (a + b) rfl (by omega) t, this, beq_self_eq_true]
    exact Ev.now _
  | succ d ih =>
    intro i h hi
    refine Ev.step (fun k => by rw [quaerelaw19_PickFair.l0]) ?_
    have et : wrap64 ((t : Int) + (i : Int)) = ((t + i : Nat) : Int) := by rw [wrap_small (by omega) (by omega)]; omega
    have ei : wrap64 ((i : Int) + 1) = ((i + 1 : Nat) : Int) := by rw [wrap_small (by omega) (by omega)]; omega
    have := hb0 i
    simp only [ew, et, if_pos (show ((i : Int) < ((a + b : Nat) : Int)) by omega)]
    obtain ⟨k, hk, hk1, hk2, hk3⟩ := next_eq [9, 4] a b ((t + i : Nat) : Int) (by decide) (by decide) (by
      intro j hj
      have : j = 0 ∨ j = 1 := by simp at hj; omega
      rcases this with rfl | rfl <;> decide) ha h0 hb (by omega)
    refine Ev.bind hk ?_
    have hk4 : k ≤ 1 := by simp at hk1; omega
    simp only [num_eq, bind_now, if_true, if_neg (show ¬ ((k : Int) < 0) by omega)]
    rw [decide_eq_false (show ¬ ((k : Int) > 1) by omega)]
    refine Ev.step (fun k => by rw [quaerelaw19_PickFair.j1]) ?_
    simp only [Bool.false_eq_true, if_false, ei]
    by_cases q : ((t + i : Nat) : Int) % ((a + b : Nat) : Int) < (a : Int)
    · have hf := hk3 q
      have : k ≠ 0 := by
        intro e; subst e
        have := hf.1 1 (by decide)
        exact absurd this (by decide)
      simp only [if_neg (show ¬ ((k : Int) = 0) by omega)]
      have := ih (i + 1) (by omega) (by omega)
      rw [aged, if_neg (by simpa using q), Nat.add_zero] at this
      exact this
    · simp only [if_pos (show ((k : Int) = 0) by rw [hk2 q]; rfl)]
      rw [show wrap64 (((aged ((a + b : Nat) : Int) (a : Int) t i : Nat) : Int) + 1) = ((aged ((a + b : Nat) : Int) (a : Int) t (i + 1) : Nat) : Int) by
        rw [wrap_small (by omega) (by omega), aged, if_pos q]; omega]
      exact ih (i + 1) (by omega) (by omega)
theorem turn_eq (a2 : Int) : ∃ t : Nat, wrap64 (Int.tmod (IntKind.u64.wrap a2) 100000) = (t : Int) ∧ t < 100000 := by
  rw [tmod_u64 a2 100000 (by decide) (by decide)]
  exact ⟨((a2 % 18446744073709551616) % 100000).toNat, by omega, by omega⟩
theorem pickFair (a0 a1 a2 : Int) : Ev (fun k => quaerelaw19_PickFair.f k a0 a1 a2) true := by
  simp only [quaerelaw19_PickFair.f]
  refine Ev.bind awake_ev ?_
  obtain ⟨a, b, e, ha, h0, hb, _⟩ := ratio_eq a0 a1
  obtain ⟨t, et, ht⟩ := turn_eq a2
  simp only [if_true, e, bind_now, et]
  exact fair_l0 a b t ha h0 hb ht (a + b) 0 (by omega) (by omega)
/-! ### PickWaits -/
/-- Of so many turns in a row as the ratio's first part and one more, one is by age. -/
theorem some_aged (a b t : Nat) (h0 : 1 ≤ b) : ∃ i, i ≤ a ∧ ¬ (((t + i : Nat) : Int) % ((a + b : Nat) : Int) < (a : Int)) := by
  apply Decidable.byContradiction
  intro hn
  have hall : ∀ i : Nat, i ≤ a → ((t + i : Nat) : Int) % ((a + b : Nat) : Int) < (a : Int) := fun i hi => Decidable.byContradiction fun h => hn ⟨i, hi, h⟩
  have step : ∀ i : Nat, i ≤ a → ((t + i : Nat) : Int) % ((a + b : Nat) : Int) = (t : Int) % ((a + b : Nat) : Int) + i := by
    intro i
    induction i with
    | zero => intro _; simp
    | succ i ih =>
      intro hi
      have h1 := ih (by omega)
      have h2 := hall i (by omega)
      have h3 : ((t + (i + 1) : Nat) : Int) = ((t + i : Nat) : Int) + 1 := by omega
      rw [h3, Int.add_emod, h1]
      have h4 : (0 : Int) ≤ (t : Int) % ((a + b : Nat) : Int) := Int.emod_nonneg _ (by omega)
      by_cases hone : a + b = 1
      · omega
      · rw [Int.emod_eq_of_lt (a := 1) (by omega) (by omega), Int.emod_eq_of_lt (by omega) (by omega)]; omega
  have h1 := step a (Nat.le_refl _)
  have h2 := hall a (Nat.le_refl _)
  have h4 : (0 : Int) ≤ (t : Int) % ((a + b : Nat) : Int) := Int.emod_nonneg _ (by omega)
  omega
def Fit (l : List Int) : Prop := ∀ x ∈ l, 0 ≤ x ∧ x ≤ 1000000
theorem fit_rd {l : List Int} (h : Fit l) (j : Nat) (hj : j < l.length) : 0 ≤ rd l (j : Int) ∧ rd l (j : Int) ≤ 1000000 := by
  unfold rd
  rw [Int.toNat_natCast, List.getD_eq_getElem?_getD, List.getElem?_eq_getElem hj]
  exact h _ (List.getElem_mem hj)
theorem fit_one (m : List Int) (x : Int) (hm : Fit m) (hx0 : 0 ≤ x) (hx1 : x ≤ 1000000) : Fit (m ++ [x]) := by
  intro y hy
  rcases List.mem_append.mp hy with hy | hy
  · exact hm y hy
  · rw [List.mem_singleton.mp hy]; exact ⟨hx0, hx1⟩
theorem lt_room {n : Nat} (h : n ≤ 1000) : n < 17592186044416 := Nat.lt_of_le_of_lt h (by decide)
theorem waits_yes (more : List Int) (t : Int) (l : List Int) (i k a b n : Nat) (hk : k < l.length) (q : ¬ ((k : Int) = 0)) (q2 : (i : Int) < (more.length : Int)) (hlen : (l.take k ++ l.drop (k + 1)).length ≤ 3 + 2 * i) (hl : l.length ≤ 100) (hi : i ≤ 20) :
    quaerelaw19_PickWaits.j1 (n + 1) more t l (i : Int) (k : Int) false (a : Int) (b : Int) = quaerelaw19_PickWaits.l0 n more t (((l.take k ++ l.drop (k + 1)) ++ [(rd more (i : Int) % 18446744073709551616) % 1000]) ++ [(i : Int)]) ((i + 1 : Nat) : Int) (a : Int) (b : Int) := by
  have ek : wrap64 ((k : Int) + 1) = ((k + 1 : Nat) : Int) := by rw [wrap_small (by omega) (by omega)]; omega
  have ei : wrap64 ((i : Int) + 1) = ((i + 1 : Nat) : Int) := by rw [wrap_small (by omega) (by omega)]; omega
  have l1 : (l.take k).length ≤ 100 := by rw [List.length_take]; omega
  have l2 : (l.drop (k + 1)).length ≤ 100 := by rw [List.length_drop]; omega
  rw [quaerelaw19_PickWaits.j1, if_neg Bool.false_ne_true, if_neg q, bind_now, if_pos (by omega), if_pos (by omega), bind_now, if_pos (lt_room (by rw [List.length_nil, Int.toNat_natCast]; omega)), bind_now, ek, if_pos (by omega), if_pos (by omega), bind_now, Int.toNat_natCast, Int.toNat_natCast, List.nil_append,
    if_pos (lt_room (by omega)), bind_now, if_pos q2, if_pos (by omega), if_pos (lt_room (by omega)), bind_now, if_pos (lt_room (by rw [List.length_append, List.length_singleton]; omega)), ei, tmod_u64 _ 1000 (by decide) (by decide)]
theorem waits_no (more : List Int) (t : Int) (l : List Int) (i k a b n : Nat) (hk : k < l.length) (q : ¬ ((k : Int) = 0)) (q2 : ¬ ((i : Int) < (more.length : Int))) (hlen : (l.take k ++ l.drop (k + 1)).length ≤ 3 + 2 * i) (hl : l.length ≤ 100) (hi : i ≤ 20) :
    quaerelaw19_PickWaits.j1 (n + 1) more t l (i : Int) (k : Int) false (a : Int) (b : Int) = quaerelaw19_PickWaits.l0 n more t ((l.take k ++ l.drop (k + 1)) ++ [(i : Int)]) ((i + 1 : Nat) : Int) (a : Int) (b : Int) := by
  have ek : wrap64 ((k : Int) + 1) = ((k + 1 : Nat) : Int) := by rw [wrap_small (by omega) (by omega)]; omega
  have ei : wrap64 ((i : Int) + 1) = ((i + 1 : Nat) : Int) := by rw [wrap_small (by omega) (by omega)]; omega
  have l1 : (l.take k).length ≤ 100 := by rw [List.length_take]; omega
  have l2 : (l.drop (k + 1)).length ≤ 100 := by rw [List.length_drop]; omega
  rw [quaerelaw19_PickWaits.j1, if_neg Bool.false_ne_true, if_neg q, bind_now, if_pos (by omega), if_pos (by omega), bind_now, if_pos (lt_room (by rw [List.length_nil, Int.toNat_natCast]; omega)), bind_now, ek, if_pos (by omega), if_pos (by omega), bind_now, Int.toNat_natCast, Int.toNat_natCast, List.nil_append,
    if_pos (lt_room (by omega)), bind_now, if_neg q2, if_pos (lt_room (by omega)), ei]
theorem cut_len (l : List Int) (k : Nat) : (l.take k ++ l.drop (k + 1)).length ≤ l.length := by
  rw [List.length_append, List.length_take, List.length_drop]; omega
theorem small1000 (x : Int) : 0 ≤ (x % 18446744073709551616) % 1000 ∧ (x % 18446744073709551616) % 1000 ≤ 1000000 := by omega
theorem turn_small {i : Nat} (h : i ≤ 20) : 0 ≤ (i : Int) ∧ (i : Int) ≤ 1000000 := by omega
theorem len_one (m : List Int) (x : Int) (i : Nat) (h : m.length ≤ 3 + 2 * i) : (m ++ [x]).length ≤ 3 + 2 * (i + 1) := by
  rw [List.length_append, List.length_singleton]; omega
theorem len_two (m : List Int) (x y : Int) (i : Nat) (h : m.length ≤ 3 + 2 * i) : ((m ++ [x]) ++ [y]).length ≤ 3 + 2 * (i + 1) := by
  rw [List.length_append, List.length_append, List.length_singleton, List.length_singleton]; omega
theorem app_one (m : List Int) (x : Int) : 1 ≤ (m ++ [x]).length := by
  rw [List.length_append, List.length_singleton]; omega
theorem waits_l0 (more : List Int) (hmore : more.length ≤ 140737488351232) (a b t : Nat) (ha : a ≤ 20) (h0 : 1 ≤ b) (hb : b ≤ 20) (ht : t < 100000) (g : Nat) (hg : g ≤ a) (hgo : ¬ (((t + g : Nat) : Int) % ((a + b : Nat) : Int) < (a : Int))) :
    ∀ (d i : Nat) (l : List Int), g - i = d → i ≤ g → 1 ≤ l.length → l.length ≤ 3 + 2 * i → Fit l →
    Ev (fun k => quaerelaw19_PickWaits.l0 k more (t : Int) l (i : Int) (a : Int) (b : Int)) true := by
  intro d
  induction d with
  | zero =>
    intro i l h hi h1 h2 hf
    obtain rfl : i = g := by omega
    refine Ev.step (fun k => by rw [quaerelaw19_PickWaits.l0]) ?_
    have et : wrap64 ((t : Int) + (i : Int)) = ((t + i : Nat) : Int) := by rw [wrap_small (by omega) (by omega)]; omega
    simp only [et, if_pos (show ((i : Int) ≤ (a : Int)) by omega)]
    obtain ⟨k, hk, hk1, hk2, hk3⟩ := next_eq l a b ((t + i : Nat) : Int) h1 (by omega) (fit_rd hf) ha h0 hb (Int.natCast_nonneg _)
    obtain rfl := hk2 hgo
    refine Ev.bind hk ?_
    simp only [num_eq, bind_now, if_true, if_neg (show ¬ (((0 : Nat) : Int) < 0) by omega)]
    rw [decide_eq_false (show ¬ (((0 : Nat) : Int) ≥ (l.length : Int)) by omega)]
    refine Ev.step (f := fun _ => some true) (fun n => ?_) (Ev.now _)
    rw [quaerelaw19_PickWaits.j1, if_neg Bool.false_ne_true, if_pos (show (((0 : Nat) : Int) = 0) from rfl)]
  | succ d ih =>
    intro i l h hi h1 h2 hf
    have hia : (i : Int) ≤ (a : Int) := by omega
    have hig : i + 1 ≤ g := by omega
    have hd : g - (i + 1) = d := by omega
    have hl9 : l.length ≤ 100 := by omega
    have hi9 : i ≤ 20 := by omega
    clear h hi hgo
    refine Ev.step (fun k => by rw [quaerelaw19_PickWaits.l0]) ?_
    have et : wrap64 ((t : Int) + (i : Int)) = ((t + i : Nat) : Int) := by rw [wrap_small (by omega) (by omega)]; omega
    have ei : wrap64 ((i : Int) + 1) = ((i + 1 : Nat) : Int) := by rw [wrap_small (by omega) (by omega)]; omega
    simp only [et, if_pos hia]
    obtain ⟨k, hk, hk1, hk2, hk3⟩ := next_eq l a b ((t + i : Nat) : Int) h1 (by omega) (fit_rd hf) ha h0 hb (Int.natCast_nonneg _)
    refine Ev.bind hk ?_
    simp only [num_eq, bind_now, if_true, if_neg (show ¬ ((k : Int) < 0) by omega)]
    rw [decide_eq_false (show ¬ ((k : Int) ≥ (l.length : Int)) by omega)]
    by_cases q : (k : Int) = 0
    · refine Ev.step (f := fun _ => some true) (fun n => ?_) (Ev.now _)
      rw [quaerelaw19_PickWaits.j1, if_neg Bool.false_ne_true, if_pos q]
    · have hlen : (l.take k ++ l.drop (k + 1)).length ≤ 3 + 2 * i := Nat.le_trans (cut_len l k) h2
      have hfit : Fit (l.take k ++ l.drop (k + 1)) := by
        intro x hx
        rcases List.mem_append.mp hx with hx | hx
        · exact hf x (List.mem_of_mem_take hx)
        · exact hf x (List.mem_of_mem_drop hx)
      by_cases q2 : (i : Int) < (more.length : Int)
      · refine Ev.step (f := fun n => quaerelaw19_PickWaits.l0 n more (t : Int) (((l.take k ++ l.drop (k + 1)) ++ [(rd more (i : Int) % 18446744073709551616) % 1000]) ++ [(i : Int)]) ((i + 1 : Nat) : Int) (a : Int) (b : Int)) (fun n => waits_yes more (t : Int) l i k a b n hk1 q q2 hlen hl9 hi9) ?_
        exact ih (i + 1) _ hd hig (app_one _ _) (len_two _ _ _ _ hlen) (fit_one _ _ (fit_one _ _ hfit (small1000 _).1 (small1000 _).2) (turn_small hi9).1 (turn_small hi9).2)
      · refine Ev.step (f := fun n => quaerelaw19_PickWaits.l0 n more (t : Int) ((l.take k ++ l.drop (k + 1)) ++ [(i : Int)]) ((i + 1 : Nat) : Int) (a : Int) (b : Int)) (fun n => waits_no more (t : Int) l i k a b n hk1 q q2 hlen hl9 hi9) ?_
        exact ih (i + 1) _ hd hig (app_one _ _) (len_one _ _ _ hlen) (fit_one _ _ hfit (turn_small hi9).1 (turn_small hi9).2)
theorem pickWaits (a0 a1 a2 : Int) (l3 : List Int) (h : l3.length * 8 ≤ 140737488351232) : Ev (fun k => quaerelaw19_PickWaits.f k a0 a1 a2 l3) true := by
  simp only [quaerelaw19_PickWaits.f]
  refine Ev.bind awake_ev ?_
  obtain ⟨a, b, e, ha, h0, hb, _⟩ := ratio_eq a0 a1
  obtain ⟨t, et, ht⟩ := turn_eq a2
  obtain ⟨g, hg, hgo⟩ := some_aged a b t h0
  simp only [if_true, e, bind_now, et]
  exact waits_l0 l3 (by omega) a b t ha h0 hb ht g hg hgo g 0 _ (by omega) (by omega) (by decide) (by decide) (by
    intro x hx
    simp only [List.mem_cons, List.not_mem_nil, or_false] at hx
    rcases hx with rfl | rfl | rfl <;> decide)
/-! ### PickLeast -/
theorem rd_map (f : Int → Int) (l : List Int) (j : Nat) (hj : j < l.length) : rd (l.map f) (j : Int) = f (rd l (j : Int)) := by
  unfold rd
  rw [Int.toNat_natCast, List.getD_eq_getElem?_getD, List.getD_eq_getElem?_getD, List.getElem?_map, List.getElem?_eq_getElem hj]
  rfl
theorem first_unique {l : List Int} {k m : Nat} (hk : First l k) (hm : First l m) (h1 : k < l.length) (h2 : m < l.length) : k = m := by
  rcases Nat.lt_trichotomy k m with h | h | h
  · have := hm.2 k h; have := hk.1 m h2; omega
  · exact h
  · have := hk.2 m h; have := hm.1 k h1; omega
theorem first_shift {l : List Int} {k : Nat} (s : Int) (h : First (l.map (· + s)) k) (hk : k < l.length) : First l k := by
  refine ⟨fun j hj => ?_, fun j hj => ?_⟩
  · have := h.1 j (by rw [List.length_map]; exact hj)
    rw [rd_map _ _ _ hk, rd_map _ _ _ hj] at this; omega
  · have := h.2 j hj
    rw [rd_map _ _ _ hk, rd_map _ _ _ (by omega)] at this; omega
theorem least_l1 (l : List Int) (hl : l.length ≤ 1000) (k : Nat) (hk : k < l.length) (h : First l k) : ∀ (d i : Nat), l.length - i = d → i ≤ l.length →
    Ev (fun n => quaerelaw19_PickLeast.l1 n l (k : Int) (i : Int)) true := by
  intro d
  induction d with
  | zero =>
    intro i hd hi
    refine Ev.step (fun k => by rw [quaerelaw19_PickLeast.l1]) ?_
    simp only [if_neg (show ¬ ((i : Int) < (l.length : Int)) by omega)]
    exact Ev.now _
  | succ d ih =>
    intro i hd hi
    refine Ev.step (fun k => by rw [quaerelaw19_PickLeast.l1]) ?_
    have h1 := h.1 i (by omega)
    simp only [if_pos (show ((i : Int) < (l.length : Int)) by omega), if_pos (show (0 : Int) ≤ (i : Int) by omega), if_pos (show (0 : Int) ≤ (k : Int) by omega), if_pos (show ((k : Int) < (l.length : Int)) by omega), if_neg (show ¬ (rd l (i : Int) < rd l (k : Int)) by omega)]
    rw [show wrap64 ((i : Int) + 1) = ((i + 1 : Nat) : Int) by rw [wrap_small (by omega) (by omega)]; omega]
    by_cases q : rd l (i : Int) = rd l (k : Int)
    · have : ¬ ((i : Int) < (k : Int)) := fun e => by have := h.2 i (by omega); omega
      simp only [if_pos q, if_neg this]
      exact ih (i + 1) (by omega) (by omega)
    · simp only [if_neg q]
      exact ih (i + 1) (by omega) (by omega)
def small (x : Int) : Int := (x % 18446744073709551616) % 500
theorem small_range (x : Int) : 0 ≤ small x ∧ small x ≤ 499 := by unfold small; omega
theorem wrap_two (x y : Int) : wrap64 (small x + small y) = small x + small y := by
  have h1 := small_range x
  have h2 := small_range y
  generalize small x = u at *
  generalize small y = v at *
  exact wrap_small (by omega) (by omega)
theorem least_l0 (ws : List Int) (hl : 1 ≤ ws.length) (hl2 : ws.length ≤ 200) (s : Int) (a b : Nat) (ha : a ≤ 20) (h0 : 1 ≤ b) (hb : b ≤ 20) : ∀ (d i : Nat), ws.length - i = d → i ≤ ws.length →
    Ev (fun k => quaerelaw19_PickLeast.l0 k ws s ((ws.take i).map small) (((ws.take i).map small).map (· + small s)) (i : Int) (a : Int) (b : Int)) true := by
  intro d
  induction d with
  | zero =>
    intro i hd hi
    obtain rfl : i = ws.length := by omega
    refine Ev.step (fun k => by rw [quaerelaw19_PickLeast.l0]) ?_
    simp only [if_neg (show ¬ ((ws.length : Int) < (ws.length : Int)) by omega), List.take_length]
    by_cases q : (a : Int) = 0
    · simp only [if_pos q]; exact Ev.now _
    · simp only [if_neg q]
      have lx : (ws.map small).length = ws.length := List.length_map ..
      have ly : ((ws.map small).map (· + small s)).length = ws.length := by rw [List.length_map, lx]
      have fx : Fit (ws.map small) := by
        intro x hx; obtain ⟨y, _, rfl⟩ := List.mem_map.mp hx
        have := small_range y; omega
      have fy : Fit ((ws.map small).map (· + small s)) := by
        intro x hx; obtain ⟨y, hy, rfl⟩ := List.mem_map.mp hx
        obtain ⟨z, _, rfl⟩ := List.mem_map.mp hy
        have := small_range z; have := small_range s; omega
      have q0 : (0 : Int) % ((a + b : Nat) : Int) < (a : Int) := by rw [Int.zero_emod]; omega
      have lx9 : (ws.map small).length ≤ 1000 := by omega
      have ly1 : 1 ≤ ((ws.map small).map (· + small s)).length := by omega
      have ly9 : ((ws.map small).map (· + small s)).length ≤ 1000000000 := by omega
      obtain ⟨k, hk, hk1, hk2, hk3⟩ := next_eq (ws.map small) a b 0 (by omega) (by omega) (fit_rd fx) ha h0 hb (by decide)
      have f1 := hk3 q0
      clear hk2 hk3
      obtain ⟨m, hm, hm1, hm2, hm3⟩ := next_eq ((ws.map small).map (· + small s)) a b 0 ly1 ly9 (fit_rd fy) ha h0 hb (by decide)
      have f2' := hm3 q0
      clear hm2 hm3 q0
      have hm2 : m < (ws.map small).length := by rw [List.length_map] at hm1; exact hm1
      have f2 := first_shift (small s) f2' hm2
      obtain rfl := first_unique f1 f2 hk1 hm2
      refine Ev.bind hk (Ev.bind hm ?_)
      simp only [num_eq, bind_now, if_true, if_neg (show ¬ ((k : Int) < 0) by omega)]
      rw [decide_eq_false (show ¬ ((k : Int) ≥ ((ws.map small).length : Int)) by omega)]
      refine Ev.step (fun k => by rw [quaerelaw19_PickLeast.j2]) ?_
      simp only [Bool.false_eq_true, if_false]
      exact least_l1 (ws.map small) lx9 k hk1 f1 _ 0 rfl (Nat.zero_le _)
  | succ d ih =>
    intro i hd hi
    have hi0 : i < ws.length := by omega
    have hi1 : (i : Int) < (ws.length : Int) := by omega
    have hi2 : (0 : Int) ≤ (i : Int) := by omega
    have hd1 : ws.length - (i + 1) = d := by omega
    have hi3 : i + 1 ≤ ws.length := by omega
    have hlim : (ws.take i).length < 17592186044416 := by rw [List.length_take]; omega
    have w4 : wrap64 ((i : Int) + 1) = ((i + 1 : Nat) : Int) := by rw [wrap_small (by omega) (by omega)]; omega
    have et : ws.take (i + 1) = ws.take i ++ [rd ws (i : Int)] := by
      rw [List.take_succ_eq_append_getElem hi0]
      congr 2
      unfold rd
      rw [Int.toNat_natCast, List.getD_eq_getElem?_getD, List.getElem?_eq_getElem hi0]
      rfl
    have w1 : wrap64 (Int.tmod (IntKind.u64.wrap (rd ws (i : Int))) 500) = small (rd ws (i : Int)) := tmod_u64 _ 500 (by decide) (by decide)
    have w2 : wrap64 (Int.tmod (IntKind.u64.wrap s) 500) = small s := tmod_u64 _ 500 (by decide) (by decide)
    have w3 : wrap64 (small (rd ws (i : Int)) + small s) = small (rd ws (i : Int)) + small s := wrap_two _ _
    refine Ev.step (fun k => by rw [quaerelaw19_PickLeast.l0]) ?_
    simp only [if_pos hi1, if_pos hi2, List.length_map, if_pos hlim, w1, w2, w3, w4]
    have := ih (i + 1) hd1 hi3
    rw [et, List.map_append, List.map_append] at this
    exact this
theorem pickLeast (l0 : List Int) (a1 a2 a3 : Int) : Ev (fun k => quaerelaw19_PickLeast.f k l0 a1 a2 a3) true := by
  simp only [quaerelaw19_PickLeast.f]
  refine Ev.bind awake_ev ?_
  simp only [if_true]
  by_cases q : (l0.length : Int) = 0
  · simp only [if_pos q]
    refine Ev.step (fun k => by rw [quaerelaw19_PickLeast.j0]) ?_
    simp only [if_true]; exact Ev.now _
  · simp only [if_neg q]
    refine Ev.step (fun k => by rw [quaerelaw19_PickLeast.j0]) ?_
    by_cases q2 : (l0.length : Int) > 200
    · simp only [decide_eq_true q2, if_true]; exact Ev.now _
    · simp only [decide_eq_false q2, Bool.false_eq_true, if_false]
      obtain ⟨a, b, e, ha, h0, hb, _⟩ := ratio_eq (wrap64 (1 + (wrap64 (Int.tmod (IntKind.u64.wrap a1) 20)))) a2
      simp only [e, bind_now]
      exact least_l0 l0 (by omega) (by omega) a3 a b ha h0 hb _ 0 rfl (by omega)
end Go.Proofs.Ytoghhgceanlkkaa.PickPlain
