/- The five statements about words, as plain statements over texts. No condition beyond the statements' own. -/
import Derived.Test.YtajdnphpjlfajaaLexPlain
import Derived.Test.YtajdnphpjlfajaaQx7
import Derived.Test.YtajdnphpjlfajaaQx8
namespace Go.Proofs.Ytajdnphpjlfajaa.LexPlain
open Go.RowKit Go.Proofs.Ytajdnphpjlfajaa.Q Go.Proofs.YtajdnphpjlfajaaW.PrintWords Go.Proofs.YtajdnphpjlfajaaW.PrintLast

theorem awake_ev : Ev (fun k => quaerelaw21_awake.f k) true := Ev.of quaerelaw21_awake.mono (show quaerelaw21_awake.f 300 = some true by decide +kernel)
theorem num_eq (a : Int) : quaerelaw0_Num.f a = some a := rfl
theorem same_l0 (l : List S33) (hl : l.length ≤ 140737488351232) : ∀ (d : Nat) (i k : Nat), l.length - i = d → d < k → quaerelaw0_SameWords.l0 k l l (i : Int) = some true := by
  intro d
  induction d with
  | zero =>
    intro i k h hk
    obtain ⟨k, rfl⟩ : ∃ m, k = m + 1 := ⟨k - 1, by omega⟩
    simp only [quaerelaw0_SameWords.l0]
    rw [if_neg (by omega)]
  | succ d ih =>
    intro i k h hk
    obtain ⟨k, rfl⟩ : ∃ m, k = m + 1 := ⟨k - 1, by omega⟩
    simp only [quaerelaw0_SameWords.l0]
    rw [if_pos (by omega), if_pos (by omega), if_pos (by omega), if_neg (by simp)]
    have := ih (i + 1) k (by omega) (by omega)
    rw [Int.natCast_add, Int.natCast_one] at this
    rw [wrap_small (by omega) (by omega)]
    exact this
theorem same_ev {a b : List S33} (h : a = b) (hl : b.length ≤ 140737488351232) : Ev (fun k => quaerelaw0_SameWords.f k a b) true := by
  subst h
  simp only [quaerelaw0_SameWords.f, if_true]
  exact ⟨a.length + 1, fun k hk => same_l0 a hl a.length 0 k (by omega) (by omega)⟩
theorem lexL_len : ∀ (n : Nat) (l : List UInt8) (ws : List (Int × List UInt8)), l.length = n → lexL l = some ws → ws.length ≤ l.length := by
  intro n
  induction n using Nat.strongRecOn with
  | _ n ih =>
    intro l ws hn h
    cases l with
    | nil => rw [lexL_nil] at h; cases h; simp
    | cons c r =>
      by_cases q : c = 32
      · subst q
        rw [lexL_blank] at h
        have := ih r.length (by rw [← hn]; simp) r ws rfl h
        simp only [List.length_cons]; omega
      · cases e : tok (c :: r) with
        | none => rw [lexL_none q e] at h; cases h
        | some km =>
          obtain ⟨k, m⟩ := km
          rw [lexL_some q e] at h
          obtain ⟨ws', h', rfl⟩ := Option.map_eq_some_iff.mp h
          have hm := tok_len e
          have hd : ((c :: r).drop m).length = (c :: r).length - m := List.length_drop
          have := ih _ (by rw [← hn, hd]; omega) ((c :: r).drop m) ws' rfl h'
          rw [hd] at this
          simp only [List.length_cons] at *; omega
theorem told_len (t : ByteArray) : (told t).1.length ≤ 2048 := by
  unfold told
  split
  · simp
  · rename_i h
    cases e : lexL t.data.toList with
    | none => simp [res]
    | some ws =>
      have := lexL_len _ _ ws rfl e
      rw [← size_eq] at this
      simp only [res, List.nil_append, List.length_map]; omega
theorem told_err (t : ByteArray) : ((told t).2 = 0 ∧ t.size ≤ 2048 ∧ ∃ ws, lexL t.data.toList = some ws ∧ (told t).1 = ws.map mkW) ∨ told t = ([], 2100) := by
  unfold told
  split
  · exact .inr rfl
  · rename_i h
    cases e : lexL t.data.toList with
    | none => exact .inr rfl
    | some ws => exact .inl ⟨rfl, by omega, ws, rfl, rfl⟩
theorem told_of {t : ByteArray} {ws : List (Int × List UInt8)} (h : t.size ≤ 2048) (e : lexL t.data.toList = some ws) : told t = (ws.map mkW, 0) := by
  unfold told; rw [if_neg (by omega), e]; rfl
theorem told_none {t : ByteArray} (e : lexL t.data.toList = none) : told t = ([], 2100) := by
  unfold told
  split
  · rfl
  · rw [e]; rfl

theorem lexes (a0 : ByteArray) : Ev (fun k => quaerelaw21_Lexes.f k a0) true := by
  simp only [quaerelaw21_Lexes.f]
  by_cases h : (a0.size : Int) > 5000
  · simp only [if_pos h]; exact Ev.now _
  · simp only [if_neg h]
    refine Ev.bind (lex_eq a0) (Ev.bind (rlex_eq a0) (Ev.bind (same_ev rfl (by have := told_len a0; omega)) ?_))
    simp only [if_true, num_eq, Option.bind_some]
    exact Ev.bind awake_ev (Ev.now _)

/-! ### Blanks between words -/
theorem while_append {p : UInt8 → Bool} (hp : p 32 = false) (l r : List UInt8) : (l ++ 32 :: r).takeWhile p = l.takeWhile p := by
  induction l with
  | nil => simp [hp]
  | cons a s ih =>
    simp only [List.cons_append, List.takeWhile_cons]
    split
    · rw [ih]
    · rfl
theorem dg32 : dg 32 = false := by decide
theorem cls32 : cls true 32 = false := by decide
theorem tok_append (c : UInt8) (l r : List UInt8) : tok (c :: l ++ 32 :: r) = tok (c :: l) := by
  have h1 := while_append cls32 (c :: l) r
  have h2 := while_append dg32 l r
  have h3 := while_append dg32 (c :: l) r
  rw [List.cons_append] at h1 h3 ⊢
  simp only [tok]
  rw [h1, h2, h3]
  have h4 : (c = 45 ∧ (l ++ 32 :: r).head? = some 62) ↔ (c = 45 ∧ l.head? = some 62) := by
    cases l with
    | nil => simp
    | cons d s => simp
  simp only [h4]
theorem lex_append : ∀ (n : Nat) (l r : List UInt8) (a : List (Int × List UInt8)), l.length = n → lexL l = some a → lexL (l ++ 32 :: r) = (lexL r).map (a ++ ·) := by
  intro n
  induction n using Nat.strongRecOn with
  | _ n ih =>
    intro l r a hn h
    cases l with
    | nil =>
      rw [lexL_nil] at h; cases h
      rw [List.nil_append, lexL_blank]; simp
    | cons c s =>
      by_cases q : c = 32
      · subst q
        rw [lexL_blank] at h
        rw [List.cons_append, lexL_blank]
        exact ih s.length (by rw [← hn]; simp) s r a rfl h
      · have ht := tok_append c s r
        cases e : tok (c :: s) with
        | none => rw [lexL_none q e] at h; cases h
        | some km =>
          obtain ⟨k, m⟩ := km
          rw [e] at ht
          have hm := tok_len e
          rw [lexL_some q e] at h
          obtain ⟨ws', h', rfl⟩ := Option.map_eq_some_iff.mp h
          rw [List.cons_append] at ht ⊢
          rw [lexL_some q ht, ← List.cons_append, List.drop_append_of_le_length hm.2, List.take_append_of_le_length hm.2]
          have := ih _ (by rw [← hn, List.length_drop]; omega) ((c :: s).drop m) r ws' rfl h'
          rw [this]
          cases lexL r <;> simp
theorem while_twice (p : UInt8 → Bool) (l : List UInt8) : (l.takeWhile p).takeWhile p = l.takeWhile p := by
  induction l with
  | nil => rfl
  | cons a s ih =>
    simp only [List.takeWhile_cons]
    split
    · rename_i h; simp [h, ih]
    · rfl
/-- A word's own text is that word, and holds no blank. -/
theorem tok_take {l : List UInt8} {k : Int} {m : Nat} (h : tok l = some (k, m)) : tok (l.take m) = some (k, m) ∧ (∀ c ∈ l.take m, c ≠ 32) ∧ 0 ≤ k ∧ k ≤ 3 := by
  have hm := tok_len h
  cases l with
  | nil => cases h
  | cons c r =>
    obtain ⟨m, rfl⟩ : ∃ q, m = q + 1 := ⟨m - 1, by omega⟩
    rw [List.take_succ_cons]
    simp only [tok] at h ⊢
    by_cases q1 : sm c = true
    · rw [if_pos q1] at h ⊢
      by_cases q2 : ((c :: r).takeWhile (cls true)).length ≤ 8
      · rw [if_pos q2] at h
        simp only [Option.some.injEq, Prod.mk.injEq] at h
        obtain ⟨rfl, h⟩ := h
        have e : c :: r.take m = (c :: r).takeWhile (cls true) := by rw [← List.take_succ_cons, ← h, take_drop_while]
        rw [e, while_twice, if_pos q2, h]
        refine ⟨rfl, fun x hx hx32 => ?_, by decide, by decide⟩
        have := while_all _ _ x hx
        rw [hx32, cls32] at this; cases this
      · rw [if_neg q2] at h; cases h
    rw [if_neg q1] at h ⊢
    by_cases q2 : c = 88
    · rw [if_pos q2] at h ⊢
      by_cases q3 : numOk (r.takeWhile dg) 2 = true ∧ val (r.takeWhile dg) 0 ≤ 23
      · rw [if_pos q3] at h
        simp only [Option.some.injEq, Prod.mk.injEq, Nat.add_right_cancel_iff] at h
        obtain ⟨rfl, h⟩ := h
        have e : r.take m = r.takeWhile dg := by rw [← h, take_drop_while]
        rw [e, while_twice, if_pos q3, h]
        refine ⟨rfl, fun x hx hx32 => ?_, by decide, by decide⟩
        rcases List.mem_cons.mp hx with h1 | hx
        · rw [hx32, q2] at h1; cases h1
        · have := while_all _ _ x hx
          rw [hx32, dg32] at this; cases this
      · rw [if_neg q3] at h; cases h
    rw [if_neg q2] at h ⊢
    by_cases q3 : dg c = true
    · rw [if_pos q3] at h ⊢
      by_cases q4 : numOk ((c :: r).takeWhile dg) 4 = true
      · rw [if_pos q4] at h
        simp only [Option.some.injEq, Prod.mk.injEq] at h
        obtain ⟨rfl, h⟩ := h
        have e : c :: r.take m = (c :: r).takeWhile dg := by rw [← List.take_succ_cons, ← h, take_drop_while]
        rw [e, while_twice, if_pos q4, h]
        refine ⟨rfl, fun x hx hx32 => ?_, by decide, by decide⟩
        have := while_all _ _ x hx
        rw [hx32, dg32] at this; cases this
      · rw [if_neg q4] at h; cases h
    rw [if_neg q3] at h ⊢
    by_cases q4 : c = 45 ∧ r.head? = some 62
    · rw [if_pos q4] at h
      simp only [Option.some.injEq, Prod.mk.injEq] at h
      obtain ⟨rfl, h⟩ := h
      obtain rfl : m = 1 := by omega
      cases r with
      | nil => cases q4.2
      | cons d s =>
        have hd : d = 62 := by simpa using q4.2
        subst hd
        rw [if_pos ⟨q4.1, by simp⟩]
        refine ⟨rfl, fun x hx hx32 => ?_, by decide, by decide⟩
        simp only [List.take_succ_cons, List.take_zero, List.mem_cons, List.not_mem_nil, or_false] at hx
        rcases hx with e | e
        · rw [hx32, q4.1] at e; cases e
        · rw [hx32] at e; cases e
    rw [if_neg q4] at h
    by_cases q5 : c ∈ marks
    · rw [if_pos q5] at h
      simp only [Option.some.injEq, Prod.mk.injEq] at h
      obtain ⟨rfl, h⟩ := h
      obtain rfl : m = 0 := by omega
      rw [if_neg (by simp), if_pos q5]
      refine ⟨rfl, fun x hx hx32 => ?_, by decide, by decide⟩
      simp only [List.take_zero, List.mem_cons, List.not_mem_nil, or_false] at hx
      rw [← hx, hx32] at q5
      exact absurd q5 (by decide)
    · rw [if_neg q5] at h; cases h
/-- What is known of each word of a text. -/
def Good (x : Int × List UInt8) : Prop := tok x.2 = some (x.1, x.2.length) ∧ (∀ c ∈ x.2, c ≠ 32) ∧ 0 ≤ x.1 ∧ x.1 ≤ 3 ∧ x.2 ≠ []
theorem lexL_good : ∀ (n : Nat) (l : List UInt8) (ws : List (Int × List UInt8)), l.length = n → lexL l = some ws →
    (∀ x ∈ ws, Good x) ∧ ws.flatMap (·.2) = l.filter (fun c => decide (c ≠ 32)) := by
  intro n
  induction n using Nat.strongRecOn with
  | _ n ih =>
    intro l ws hn h
    cases l with
    | nil => rw [lexL_nil] at h; cases h; simp
    | cons c r =>
      by_cases q : c = 32
      · subst q
        rw [lexL_blank] at h
        have := ih r.length (by rw [← hn]; simp) r ws rfl h
        simpa using this
      · cases e : tok (c :: r) with
        | none => rw [lexL_none q e] at h; cases h
        | some km =>
          obtain ⟨k, m⟩ := km
          rw [lexL_some q e] at h
          obtain ⟨ws', h', rfl⟩ := Option.map_eq_some_iff.mp h
          have hm := tok_len e
          have hd : ((c :: r).drop m).length = (c :: r).length - m := List.length_drop
          obtain ⟨i1, i2⟩ := ih _ (by rw [← hn, hd]; omega) ((c :: r).drop m) ws' rfl h'
          obtain ⟨t1, t2, t3, t4⟩ := tok_take e
          have hl : ((c :: r).take m).length = m := by rw [List.length_take]; omega
          constructor
          · intro x hx
            rcases List.mem_cons.mp hx with rfl | hx
            · exact ⟨by rw [hl]; exact t1, t2, t3, t4, fun z => by have : ((c :: r).take m).length = 0 := by rw [show (c :: r).take m = [] from z]; rfl
                                                                   omega⟩
            · exact i1 x hx
          · rw [List.flatMap_cons, i2]
            have : (c :: r).filter (fun c => decide (c ≠ 32)) = ((c :: r).take m).filter (fun c => decide (c ≠ 32)) ++ ((c :: r).drop m).filter (fun c => decide (c ≠ 32)) := by
              rw [← List.filter_append, List.take_append_drop]
            have e2 : ((c :: r).take m).filter (fun c => decide (c ≠ 32)) = (c :: r).take m := List.filter_eq_self.mpr (fun a ha => by simpa using t2 a ha)
            rw [this, e2]
def spaced (ws : List (Int × List UInt8)) : List UInt8 := ws.flatMap fun x => x.2 ++ [32]
theorem lex_good_one {x : Int × List UInt8} (h : Good x) (r : List UInt8) : lexL (x.2 ++ 32 :: r) = (lexL r).map (x :: ·) := by
  obtain ⟨h1, h2, h3, h4, h5⟩ := h
  have : lexL x.2 = some [x] := by
    obtain ⟨k, l⟩ := x
    cases l with
    | nil => exact absurd rfl h5
    | cons c r =>
      rw [lexL_some (h2 c (by simp)) h1]
      simp [lexL_nil]
  rw [lex_append _ _ r _ rfl this]
  rfl
theorem lex_spaced (ws : List (Int × List UInt8)) (h : ∀ x ∈ ws, Good x) : lexL (spaced ws) = some ws := by
  induction ws with
  | nil => exact lexL_nil
  | cons x s ih =>
    have e : spaced (x :: s) = x.2 ++ 32 :: spaced s := by simp [spaced]
    rw [e, lex_good_one (h x (by simp)), ih (fun y hy => h y (by simp [hy]))]
    rfl
theorem spaced_len (ws : List (Int × List UInt8)) : (spaced ws).length = (ws.flatMap (·.2)).length + ws.length := by
  induction ws with
  | nil => rfl
  | cons x s ih =>
    have e : spaced (x :: s) = x.2 ++ 32 :: spaced s := by simp [spaced]
    rw [e]; simp only [List.length_append, List.length_cons, ih, List.flatMap_cons]; omega
theorem mem_len {x : Int × List UInt8} {ws : List (Int × List UInt8)} (h : x ∈ ws) : x.2.length ≤ (ws.flatMap (·.2)).length := by
  induction ws with
  | nil => cases h
  | cons y s ih =>
    rw [List.flatMap_cons, List.length_append]
    rcases List.mem_cons.mp h with rfl | h
    · omega
    · have := ih h; omega
theorem app_list (a b : ByteArray) : (a ++ b).data.toList = a.data.toList ++ b.data.toList := by
  rw [ByteArray.data_append, Array.toList_append]
theorem app_size (a b : ByteArray) : (a ++ b).size = a.size + b.size := by rw [size_eq, app_list, List.length_append, ← size_eq, ← size_eq]
theorem rd_word (ws : List (Int × List UInt8)) (i : Nat) (x : Int × List UInt8) (r : List (Int × List UInt8)) (h : ws.drop i = x :: r) :
    rd_T33 (ws.map mkW) (i : Int) = mkW x ∧ i < ws.length ∧ ws.drop (i + 1) = r := by
  have h1 : i < ws.length := by
    apply Decidable.byContradiction; intro hn
    rw [List.drop_eq_nil_of_le (by omega)] at h; cases h
  have hc := @List.getElem_cons_drop _ ws i h1
  rw [h] at hc
  refine ⟨?_, h1, (List.cons.inj hc).2⟩
  unfold rd_T33
  rw [Int.toNat_natCast, List.getD_eq_getElem?_getD, List.getElem?_map, List.getElem?_eq_getElem h1, (List.cons.inj hc).1]
  rfl
theorem mkW_list (x : Int × List UInt8) : (mkW x).f1.data.toList = x.2 := rfl
theorem mkW_size (x : Int × List UInt8) : (mkW x).f1.size = x.2.length := by rw [size_eq, mkW_list]

/-! ### LexJoins -/
theorem joins_l0 (a : List (Int × List UInt8)) (ha : ∀ x ∈ a, Good x) (hl : (spaced a).length ≤ 2048) (x7 x9 : List S33) (h7 : x7.length ≤ 2048) (x10 : Int) (h10 : x10 = 0) (h9 : x9 = a.map mkW ++ x7) :
    ∀ (d : List (Int × List UInt8)) (i : Nat) (x11 : ByteArray), a.drop i = d → x11.data.toList = spaced (a.take i) →
    Ev (fun k => quaerelaw21_LexJoins.l0 k (a.map mkW) x7 x9 x10 x11 (i : Int)) true := by
  have ht : ∀ i, (spaced (a.take i)).length ≤ (spaced a).length := by
    intro i
    have : spaced a = spaced (a.take i) ++ spaced (a.drop i) := by unfold spaced; rw [← List.flatMap_append, List.take_append_drop]
    rw [this, List.length_append]; omega
  have hal : a.length ≤ 2048 := by rw [spaced_len] at hl; omega
  intro d
  induction d with
  | nil =>
    intro i x11 hd hx
    have hi : a.length ≤ i := List.drop_eq_nil_iff.mp hd
    rw [List.take_of_length_le hi] at hx
    refine Ev.step (fun k => by rw [quaerelaw21_LexJoins.l0]) ?_
    simp only [if_neg (show ¬ ((i : Int) < ((a.map mkW).length : Int)) by rw [List.length_map]; omega)]
    have hs : x11.size ≤ 2048 := by rw [size_eq, hx]; exact hl
    have e : told x11 = (a.map mkW, 0) := told_of hs (by rw [hx]; exact lex_spaced a ha)
    refine Ev.bind (lex_eq x11) ?_
    rw [e]
    simp only [num_eq, Option.bind_some, h10, if_true, List.length_nil, List.nil_append, List.length_map]
    simp only [if_pos (show 0 + a.length < 5864062014805 by omega), if_pos (show a.length + x7.length < 5864062014805 by omega)]
    refine Ev.bind (same_ev h9 (by rw [List.length_append, List.length_map]; omega)) ?_
    simp only [if_true]
    exact Ev.bind (same_ev rfl (by rw [List.length_map]; omega)) (Ev.now _)
  | cons x r ih =>
    intro i x11 hd hx
    obtain ⟨h1, h2, h3⟩ := rd_word a i x r hd
    have hx2 : (x11 ++ (mkW x).f1 ++ (⟨#[32]⟩ : ByteArray)).data.toList = spaced (a.take (i + 1)) := by
      rw [app_list, app_list, hx, mkW_list]
      have : a.take (i + 1) = a.take i ++ [x] := by
        rw [List.take_succ_eq_append_getElem h2]
        have := @List.getElem_cons_drop _ a i h2
        rw [hd] at this; rw [(List.cons.inj this).1]
      rw [this]; simp [spaced]
    have hs1 : x11.size ≤ 2048 := by rw [size_eq, hx]; exact Nat.le_trans (ht i) hl
    have hs2 : (x11 ++ (mkW x).f1 ++ (⟨#[32]⟩ : ByteArray)).size ≤ 2048 := by rw [size_eq, hx2]; exact Nat.le_trans (ht (i + 1)) hl
    rw [app_size] at hs2
    have hs3 := app_size x11 (mkW x).f1
    refine Ev.step (fun k => by rw [quaerelaw21_LexJoins.l0]) ?_
    simp only [if_pos (show ((i : Int) < ((a.map mkW).length : Int)) by rw [List.length_map]; omega), if_pos (show (0 : Int) ≤ (i : Int) by omega), h1, if_pos (show x11.size + (mkW x).f1.size ≤ 9223372036854775807 by omega), if_pos (show (x11 ++ (mkW x).f1).size + 1 ≤ 9223372036854775807 by omega)]
    rw [show wrap64 ((i : Int) + 1) = ((i + 1 : Nat) : Int) by unfold wrap64; omega]
    exact ih (i + 1) _ h3 hx2
theorem lexJoins (a0 a1 : ByteArray) (h0 : a0.size ≤ 140737488351232) (h1 : a1.size ≤ 140737488351232) : Ev (fun k => quaerelaw21_LexJoins.f k a0 a1) true := by
  simp only [quaerelaw21_LexJoins.f]
  refine Ev.bind awake_ev ?_
  simp only [if_true]
  refine Ev.bind (lex_eq a0) (Ev.bind (lex_eq a1) ?_)
  simp only [num_eq, Option.bind_some]
  have stop : ∀ x5 x7, Ev (fun k => quaerelaw21_LexJoins.j0 k a0 a1 x5 x7 true) true := fun x5 x7 => Ev.step (fun k => by rw [quaerelaw21_LexJoins.j0]) (by simp only [if_true]; exact Ev.now _)
  rcases told_err a0 with ⟨e0, s0, a, la, ta⟩ | e0
  · simp only [e0, if_true]
    rcases told_err a1 with ⟨e1, s1, b, lb, tb⟩ | e1
    · simp only [e1, if_true, ta, tb]
      by_cases hs : wrap64 ((a0.size : Int) + (a1.size : Int)) ≥ 1024
      · rw [decide_eq_true hs]; exact stop _ _
      · rw [decide_eq_false hs]
        have hs' : a0.size + a1.size < 1024 := by
          have : wrap64 ((a0.size : Int) + (a1.size : Int)) = (a0.size : Int) + (a1.size : Int) := wrap_small (by omega) (by omega)
          omega
        refine Ev.step (fun k => by rw [quaerelaw21_LexJoins.j0]) ?_
        have z1 := app_size a0 (⟨#[32]⟩ : ByteArray)
        have z1' : (⟨#[32]⟩ : ByteArray).size = 1 := rfl
        have z2 := app_size (a0 ++ (⟨#[32]⟩ : ByteArray)) a1
        simp only [Bool.false_eq_true, if_false, if_pos (show a0.size + 1 ≤ 9223372036854775807 by omega), if_pos (show (a0 ++ (⟨#[32]⟩ : ByteArray)).size + a1.size ≤ 9223372036854775807 by omega)]
        have hj : lexL (a0 ++ (⟨#[32]⟩ : ByteArray) ++ a1).data.toList = some (a ++ b) := by
          rw [app_list, app_list, List.append_assoc]
          have := lex_append _ a0.data.toList a1.data.toList a rfl la
          rw [lb] at this
          exact this
        have et := told_of (by omega) hj
        have ga := lexL_good _ _ a rfl la
        have la' := lexL_len _ _ a rfl la
        have lb' := lexL_len _ _ b rfl lb
        refine Ev.bind (lex_eq _) ?_
        rw [et]
        refine joins_l0 a ga.1 ?_ (b.map mkW) _ ?_ 0 rfl (by simp) a 0 _ rfl rfl
        · rw [spaced_len, ga.2]
          have := List.length_filter_le (fun c : UInt8 => decide (c ≠ 32)) a0.data.toList
          rw [← size_eq] at this la'
          omega
        · rw [List.length_map]; rw [← size_eq] at lb'; omega
    · rw [e1]; simp only [if_neg (show ¬ ((2100 : Int) = 0) by decide)]; exact stop _ _
  · rw [e0]; simp only [if_neg (show ¬ ((2100 : Int) = 0) by decide)]; exact stop _ _

/-! ### LexParts -/
theorem parts_l1 (t : ByteArray) (hn : t.size ≤ 2048) (x5 : ByteArray) (h5 : x5.data.toList = t.data.toList.filter (fun c => decide (c ≠ 32))) :
    ∀ (l : List UInt8) (i : Nat) (x6 : ByteArray), t.data.toList.drop i = l → x6.data.toList = (t.data.toList.take i).filter (fun c => decide (c ≠ 32)) → i ≤ t.size →
    Ev (fun k => quaerelaw21_LexParts.l1 k t x5 x6 (i : Int)) true := by
  intro l
  induction l with
  | nil =>
    intro i x6 h hx hi
    have := drop_nil h
    refine Ev.step (fun k => by rw [quaerelaw21_LexParts.l1]) ?_
    simp only [if_neg (show ¬ ((i : Int) < (t.size : Int)) by omega)]
    rw [List.take_of_length_le (by rw [← size_eq]; omega)] at hx
    rw [toList_data, toList_data, h5, hx, beq_self_eq_true]
    exact Ev.now _
  | cons c r ih =>
    intro i x6 h hx hi
    obtain ⟨h1, h2, h3⟩ := drop_cons h
    have htake : t.data.toList.take (i + 1) = t.data.toList.take i ++ [c] := by
      have hi' : i < t.data.toList.length := by rw [← size_eq]; exact h1
      rw [List.take_succ_eq_append_getElem hi']
      have := @List.getElem_cons_drop _ t.data.toList i hi'
      rw [h] at this; rw [(List.cons.inj this).1]
    have w1 : wrap64 ((i : Int) + 1) = ((i + 1 : Nat) : Int) := by unfold wrap64; omega
    refine Ev.step (fun k => by rw [quaerelaw21_LexParts.l1]) ?_
    simp only [if_pos (show ((i : Int) < (t.size : Int)) by omega), if_pos (show (0 : Int) ≤ (i : Int) by omega), h2, w1]
    by_cases q : c = 32
    · simp only [if_pos (show (c.toNat : Int) = 32 by rw [q]; rfl)]
      exact ih (i + 1) x6 h3 (by rw [htake, List.filter_append, hx, q]; simp) (by omega)
    · simp only [if_neg (show ¬ ((c.toNat : Int) = 32) from fun e => q ((u8_eq c 32 (by decide)).mp e)), if_pos (show ((i : Int) ≤ ((i + 1 : Nat) : Int)) by omega), if_pos (show (((i + 1 : Nat) : Int) ≤ (t.size : Int)) by omega), Int.toNat_natCast]
      have he : (t.extract i (i + 1)).data.toList = [c] := by rw [extract_list, h, Nat.add_sub_cancel_left]; rfl
      have hes : (t.extract i (i + 1)).size = 1 := by rw [size_eq, he]; rfl
      have h6 : x6.size ≤ 2048 := by
        rw [size_eq, hx]
        have := List.length_filter_le (fun c : UInt8 => decide (c ≠ 32)) (t.data.toList.take i)
        rw [List.length_take] at this; omega
      simp only [if_pos (show x6.size + (t.extract i (i + 1)).size ≤ 9223372036854775807 by omega)]
      exact ih (i + 1) _ h3 (by rw [htake, List.filter_append, app_list, hx, he]; simp [q]) (by omega)
theorem parts_l0 (t : ByteArray) (hn : t.size ≤ 2048) (a : List (Int × List UInt8)) (ha : ∀ x ∈ a, Good x) (hf : a.flatMap (·.2) = t.data.toList.filter (fun c => decide (c ≠ 32))) (hal : a.length ≤ 2048) :
    ∀ (d : List (Int × List UInt8)) (i : Nat) (x5 : ByteArray), a.drop i = d → x5.data.toList = (a.take i).flatMap (·.2) →
    Ev (fun k => quaerelaw21_LexParts.l0 k t (a.map mkW) x5 (⟨#[]⟩ : ByteArray) (i : Int)) true := by
  have hfl : (a.flatMap (·.2)).length ≤ 2048 := by
    rw [hf]
    have := List.length_filter_le (fun c : UInt8 => decide (c ≠ 32)) t.data.toList
    rw [← size_eq] at this; omega
  have ht : ∀ i, ((a.take i).flatMap (·.2)).length ≤ (a.flatMap (·.2)).length := by
    intro i
    have : a.flatMap (·.2) = (a.take i).flatMap (·.2) ++ (a.drop i).flatMap (·.2) := by rw [← List.flatMap_append, List.take_append_drop]
    rw [this, List.length_append]; omega
  intro d
  induction d with
  | nil =>
    intro i x5 hd hx
    have hi : a.length ≤ i := List.drop_eq_nil_iff.mp hd
    rw [List.take_of_length_le hi] at hx
    refine Ev.step (fun k => by rw [quaerelaw21_LexParts.l0]) ?_
    simp only [if_neg (show ¬ ((i : Int) < ((a.map mkW).length : Int)) by rw [List.length_map]; omega)]
    exact parts_l1 t hn x5 (by rw [hx, hf]) _ 0 _ rfl rfl (by omega)
  | cons x r ih =>
    intro i x5 hd hx
    obtain ⟨h1, h2, h3⟩ := rd_word a i x r hd
    have htake : a.take (i + 1) = a.take i ++ [x] := by
      rw [List.take_succ_eq_append_getElem h2]
      have := @List.getElem_cons_drop _ a i h2
      rw [hd] at this; rw [(List.cons.inj this).1]
    have hx2 : (x5 ++ (mkW x).f1).data.toList = (a.take (i + 1)).flatMap (·.2) := by
      rw [app_list, hx, mkW_list, htake]; simp
    have hg : Good x := ha x (by
      have : x ∈ a.drop i := by rw [hd]; simp
      exact List.mem_of_mem_drop this)
    obtain ⟨g1, g2, g3, g4, g5⟩ := hg
    have hs1 : x5.size ≤ 2048 := by rw [size_eq, hx]; exact Nat.le_trans (ht i) hfl
    have hs2 : (x5 ++ (mkW x).f1).size ≤ 2048 := by rw [size_eq, hx2]; exact Nat.le_trans (ht (i + 1)) hfl
    rw [app_size] at hs2
    refine Ev.step (fun k => by rw [quaerelaw21_LexParts.l0]) ?_
    simp only [if_pos (show ((i : Int) < ((a.map mkW).length : Int)) by rw [List.length_map]; omega), if_pos (show (0 : Int) ≤ (i : Int) by omega), h1, toList_data, mkW_list, if_neg g5,
      if_neg (show ¬ ((mkW x).f0 < 0) from fun (e : x.1 < 0) => by omega), if_neg (show ¬ ((mkW x).f0 > 3) from fun (e : x.1 > 3) => by omega), if_pos (show x5.size + (mkW x).f1.size ≤ 9223372036854775807 by omega)]
    rw [show wrap64 ((i : Int) + 1) = ((i + 1 : Nat) : Int) by unfold wrap64; omega]
    exact ih (i + 1) _ h3 hx2
theorem lexParts (a0 : ByteArray) : Ev (fun k => quaerelaw21_LexParts.f k a0) true := by
  simp only [quaerelaw21_LexParts.f]
  refine Ev.bind awake_ev ?_
  simp only [if_true]
  refine Ev.bind (lex_eq a0) ?_
  simp only [num_eq, Option.bind_some]
  rcases told_err a0 with ⟨e0, s0, a, la, ta⟩ | e0
  · simp only [e0, if_true, ta]
    have ga := lexL_good _ _ a rfl la
    have la' := lexL_len _ _ a rfl la
    rw [← size_eq] at la'
    exact parts_l0 a0 s0 a ga.1 ga.2 (by omega) a 0 _ rfl rfl
  · rw [e0]; simp only [if_neg (show ¬ ((2100 : Int) = 0) by decide)]; exact Ev.now _

/-! ### LexLong -/
theorem lex_blanks : ∀ n, lexL (List.replicate n 32) = some [] := by
  intro n
  induction n with
  | zero => exact lexL_nil
  | succ n ih => rw [List.replicate_succ, lexL_blank]; exact ih
theorem long_l0 (s : Nat) (hs : s ≤ 3000) (x3 : Int) (h3 : x3 = (s : Int)) : ∀ (d i : Nat), s - i = d → i ≤ s →
    Ev (fun k => quaerelaw21_LexLong.l0 k x3 (List.replicate i 32 ++ List.replicate (s - i) 0) (i : Int)) true := by
  intro d
  induction d with
  | zero =>
    intro i h hi
    obtain rfl : i = s := by omega
    refine Ev.step (fun k => by rw [quaerelaw21_LexLong.l0]) ?_
    simp only [Nat.sub_self, List.replicate_zero, List.append_nil, List.length_replicate, if_neg (show ¬ ((i : Int) < (i : Int)) by omega)]
    refine Ev.bind (lex_eq _) ?_
    have e : (strOfNums (List.replicate i 32)).data.toList = List.replicate i (32 : UInt8) := by
      rw [strOfNums_data, List.map_replicate]; rfl
    have es : (strOfNums (List.replicate i 32)).size = i := by rw [size_eq, e, List.length_replicate]
    simp only [num_eq, Option.bind_some]
    by_cases hb : i ≤ 2048
    · have := told_of (t := strOfNums (List.replicate i 32)) (by rw [es]; exact hb) (by rw [e]; exact lex_blanks i)
      rw [this, h3]
      simp only [if_pos (show (((0 : Int) == 0) == decide ((i : Int) ≤ 2048)) = true by rw [decide_eq_true (by omega)]; rfl)]
      exact Ev.now _
    · have : told (strOfNums (List.replicate i 32)) = ([], 2100) := by unfold told; rw [if_pos (by rw [es]; omega)]
      rw [this, h3]
      simp only [if_pos (show (((2100 : Int) == 0) == decide ((i : Int) ≤ 2048)) = true by rw [decide_eq_false (by omega)]; rfl)]
      exact Ev.now _
  | succ d ih =>
    intro i h hi
    refine Ev.step (fun k => by rw [quaerelaw21_LexLong.l0]) ?_
    simp only [List.length_append, List.length_replicate, if_pos (show ((i : Int) < ((i + (s - i) : Nat) : Int)) by omega), if_pos (show (0 : Int) ≤ (i : Int) by omega), Int.toNat_natCast]
    rw [show wrap64 ((i : Int) + 1) = ((i + 1 : Nat) : Int) by unfold wrap64; omega]
    have e : (List.replicate i (32 : Int) ++ List.replicate (s - i) 0).set i 32 = List.replicate (i + 1) 32 ++ List.replicate (s - (i + 1)) 0 := by
      rw [List.set_append_right _ _ (by simp), List.length_replicate, Nat.sub_self, show s - i = (s - (i + 1)) + 1 by omega, List.replicate_succ, List.set_cons_zero, List.replicate_succ', List.append_assoc]
      rfl
    rw [e]
    exact ih (i + 1) (by omega) (by omega)
theorem lexLong (a0 : Int) : Ev (fun k => quaerelaw21_LexLong.f k a0) true := by
  simp only [quaerelaw21_LexLong.f]
  refine Ev.bind awake_ev ?_
  simp only [if_true]
  obtain ⟨s, hs, h1, h2⟩ : ∃ s : Nat, wrap64 (2045 + (wrap64 (Int.tmod (IntKind.u64.wrap a0) 7))) = (s : Int) ∧ 2045 ≤ s ∧ s ≤ 2051 := by
    have hw : 0 ≤ IntKind.u64.wrap a0 := by
      have : IntKind.u64.wrap a0 = a0 % 18446744073709551616 := by rfl
      rw [this]; omega
    have ht : Int.tmod (IntKind.u64.wrap a0) 7 = (IntKind.u64.wrap a0) % 7 := Int.tmod_eq_emod_of_nonneg hw
    rw [ht]
    refine ⟨(2045 + IntKind.u64.wrap a0 % 7).toNat, ?_, ?_, ?_⟩
    · rw [wrap_small (n := IntKind.u64.wrap a0 % 7) (by omega) (by omega), wrap_small (by omega) (by omega)]; omega
    · omega
    · omega
  rw [hs]
  simp only [if_pos (show (0 : Int) ≤ (s : Int) by omega), Int.toNat_natCast, if_pos (show s ≤ 281474976710656 by omega)]
  have := long_l0 s (by omega) (s : Int) rfl s 0 (by omega) (by omega)
  simpa using this

/-! ### LexNumbers -/
/-- The digits of a number: 's' is what its lower digits are, 'x' the number. -/
def Digits (x : Nat) (s : List UInt8) : Prop := (∀ c ∈ s, dg c = true) ∧ s ≠ [] ∧ val s 0 = (x : Int) ∧ (s.head? ≠ some 48 ∨ s.length = 1)
theorem val_app (s : List UInt8) : ∀ a : Int, val s a = a * 10 ^ s.length + val s 0 := by
  induction s with
  | nil => intro a; simp [val]
  | cons c r ih =>
    intro a
    simp only [val, List.length_cons]
    rw [ih (10 * a + ((c.toNat : Int) - 48)), ih (10 * 0 + ((c.toNat : Int) - 48))]
    have e : a * 10 ^ (r.length + 1) = (10 * a) * 10 ^ r.length := by rw [Int.pow_succ, Int.mul_comm (10 ^ r.length) 10, ← Int.mul_assoc, Int.mul_comm a 10]
    rw [e, Int.add_mul, Int.add_mul]
    omega
theorem val_lt (s : List UInt8) (h : ∀ c ∈ s, dg c = true) : 0 ≤ val s 0 ∧ val s 0 < 10 ^ s.length := by
  induction s with
  | nil => simp [val]
  | cons c r ih =>
    have hv := digit_val (h c (List.mem_cons_self ..))
    have := ih (fun x hx => h x (List.mem_cons_of_mem _ hx))
    simp only [val, List.length_cons]
    rw [val_app]
    have hp := pow_pos10 r.length
    have h1 : (10 * 0 + ((c.toNat : Int) - 48)) * 10 ^ r.length ≤ 9 * 10 ^ r.length := Int.mul_le_mul_of_nonneg_right (by omega) (by omega)
    have h2 : 0 ≤ (10 * 0 + ((c.toNat : Int) - 48)) * 10 ^ r.length := Int.mul_nonneg (by omega) (by omega)
    have e : (10 : Int) ^ (r.length + 1) = 10 * 10 ^ r.length := by rw [Int.pow_succ, Int.mul_comm]
    rw [e]
    omega
/-- How long a number's text is. -/
theorem digits_len {x : Nat} {s : List UInt8} (h : Digits x s) (n : Nat) (hn : 1 ≤ n) : s.length ≤ n ↔ (x : Int) < 10 ^ n := by
  obtain ⟨h1, h2, h3, h4⟩ := h
  constructor
  · intro hl
    have := val_lt s h1
    rw [h3] at this
    have e : (10 : Int) ^ n = 10 ^ (n - s.length) * 10 ^ s.length := by rw [← Int.pow_add, Nat.sub_add_cancel hl]
    have hp := pow_pos10 (n - s.length)
    have : 1 * (10 : Int) ^ s.length ≤ 10 ^ (n - s.length) * 10 ^ s.length := Int.mul_le_mul_of_nonneg_right hp (by have := pow_pos10 s.length; omega)
    omega
  · intro hx
    apply Decidable.byContradiction
    intro hl
    cases s with
    | nil => exact h2 rfl
    | cons c r =>
      simp only [List.length_cons] at hl h4
      have hv := digit_val (h1 c (List.mem_cons_self ..))
      have h5 : c ≠ 48 := h4.elim (fun h => by simpa using h) (fun h => by omega)
      have h6 : 1 ≤ (c.toNat : Int) - 48 := by
        have : ¬ ((c.toNat : Int) = 48) := fun e => h5 ((u8_eq c 48 (by decide)).mp e)
        omega
      have h7 := val_ge r (10 * 0 + ((c.toNat : Int) - 48)) (fun x hx => h1 x (List.mem_cons_of_mem _ hx)) (by omega)
      simp only [val] at h3
      rw [h3] at h7
      have h8 : 1 * (10 : Int) ^ r.length ≤ (10 * 0 + ((c.toNat : Int) - 48)) * 10 ^ r.length := Int.mul_le_mul_of_nonneg_right (by omega) (by have := pow_pos10 r.length; omega)
      have e : (10 : Int) ^ r.length = 10 ^ (r.length - n) * 10 ^ n := by rw [← Int.pow_add, Nat.sub_add_cancel (by omega)]
      have hp := pow_pos10 (r.length - n)
      have : 1 * (10 : Int) ^ n ≤ 10 ^ (r.length - n) * 10 ^ n := Int.mul_le_mul_of_nonneg_right hp (by have := pow_pos10 n; omega)
      omega
theorem while_self {p : UInt8 → Bool} : ∀ (s : List UInt8), (∀ c ∈ s, p c = true) → s.takeWhile p = s
  | [], _ => rfl
  | c :: r, h => by rw [List.takeWhile_cons, if_pos (h c (List.mem_cons_self ..)), while_self r fun x hx => h x (List.mem_cons_of_mem _ hx)]
theorem while_digits {s : List UInt8} (h : ∀ c ∈ s, dg c = true) : s.takeWhile dg = s := while_self s h
theorem dg_sm {c : UInt8} (h : dg c = true) : ¬ (sm c = true) ∧ c ≠ 88 ∧ c ≠ 32 := by
  unfold dg at h
  have := of_decide_eq_true h
  refine ⟨fun z => ?_, fun z => ?_, fun z => ?_⟩
  · unfold sm at z; have := of_decide_eq_true z; omega
  · rw [z] at this; exact absurd this (by decide)
  · rw [z] at this; exact absurd this (by decide)
theorem lex_number {s : List UInt8} (h1 : ∀ c ∈ s, dg c = true) (h2 : s ≠ []) : lexL s = if numOk s 4 = true then some [(2, s)] else none := by
  cases s with
  | nil => exact absurd rfl h2
  | cons c r =>
    have hc := h1 c (List.mem_cons_self ..)
    obtain ⟨q1, q2, q3⟩ := dg_sm hc
    have ht : tok (c :: r) = if numOk (c :: r) 4 = true then some (2, (c :: r).length) else none := by
      simp only [tok]
      rw [if_neg q1, if_neg q2, if_pos hc, while_digits h1]
    by_cases q : numOk (c :: r) 4 = true
    · rw [if_pos q] at ht ⊢
      rw [lexL_some q3 ht, List.drop_length, List.take_length, lexL_nil]; rfl
    · rw [if_neg q] at ht ⊢
      exact lexL_none q3 ht
theorem lex_var {s : List UInt8} (h1 : ∀ c ∈ s, dg c = true) : lexL (88 :: s) = if numOk s 2 = true ∧ val s 0 ≤ 23 then some [(1, 88 :: s)] else none := by
  have ht : tok (88 :: s) = if numOk s 2 = true ∧ val s 0 ≤ 23 then some (1, s.length + 1) else none := by
    simp only [tok]
    rw [if_neg (by decide), if_pos trivial, while_digits h1]
  by_cases q : numOk s 2 = true ∧ val s 0 ≤ 23
  · rw [if_pos q] at ht ⊢
    rw [lexL_some (by decide) ht]
    simp [lexL_nil]
  · rw [if_neg q] at ht ⊢
    exact lexL_none (by decide) ht
theorem lex_zero {s : List UInt8} (h1 : ∀ c ∈ s, dg c = true) (h2 : s ≠ []) : lexL (48 :: s) = none := by
  have hd : ∀ c ∈ (48 :: s), dg c = true := fun c hc => by
    rcases List.mem_cons.mp hc with rfl | hc
    · decide
    · exact h1 c hc
  rw [lex_number hd (by simp), if_neg]
  unfold numOk
  simp only [decide_eq_true_eq]
  rintro ⟨_, _, h | h⟩
  · simp at h
  · have : s.length = 0 := by simpa using h
    exact h2 (List.length_eq_zero_iff.mp this)
theorem lex_name {s : List UInt8} (h1 : ∀ c ∈ s, dg c = true) (hl : s.length ≤ 7) : lexL (97 :: s) = some [(0, 97 :: s)] := by
  have hw : (97 :: s).takeWhile (cls true) = 97 :: s := while_self _ fun c hc => by
    rcases List.mem_cons.mp hc with rfl | hc
    · decide
    · simp [cls, h1 c hc]
  have ht : tok (97 :: s) = some (0, (97 :: s).length) := by
    simp only [tok]
    rw [if_pos (by decide), hw, if_pos (by simp only [List.length_cons]; omega)]
  rw [lexL_some (by decide) ht, List.drop_length, List.take_length, lexL_nil]; rfl
theorem one_list (s : ByteArray) (c : UInt8) : ((⟨#[c]⟩ : ByteArray) ++ s).data.toList = c :: s.data.toList := by rw [app_list]; rfl
theorem mkW_of (k : Int) (s : ByteArray) (l : List UInt8) (h : s.data.toList = l) : (⟨k, s⟩ : S33) = mkW (k, l) := by
  unfold mkW; congr 1; exact ext_list h
theorem one_size (c : UInt8) : (⟨#[c]⟩ : ByteArray).size = 1 := rfl
theorem p2 : (10 : Int) ^ 2 = 100 := by decide
theorem p4 : (10 : Int) ^ 4 = 10000 := by rw [show (4 : Nat) = 2 + 2 from rfl, Int.pow_add, p2]; rfl
theorem p5 : (10 : Int) ^ 5 = 100000 := by rw [Int.pow_succ, p4]; rfl
theorem p6 : (10 : Int) ^ 6 = 1000000 := by rw [Int.pow_succ, p5]; rfl
theorem numbers_j1 (x : Int) (s : ByteArray) (hs : 1 + s.size ≤ 9223372036854775807) (a b c : List S33) (ha : x < 10000 → a = [⟨2, s⟩]) (hb : x ≤ 23 → b = [⟨1, (⟨#[88]⟩ : ByteArray) ++ s⟩]) (hc : c = [⟨0, (⟨#[97]⟩ : ByteArray) ++ s⟩]) :
    Ev (fun k => quaerelaw21_LexNumbers.j1 k x s a b c false) true := by
  have s1 : ∀ {u : List S33} {y : S33}, u = [y] → Ev (fun k => quaerelaw0_SameWords.f k u [y]) true := fun h => same_ev h (by simp)
  refine Ev.step (fun k => by rw [quaerelaw21_LexNumbers.j1]) ?_
  simp only [Bool.false_eq_true, if_false, if_pos hs]
  by_cases q1 : x ≥ 10000
  · simp only [if_pos q1, if_pos (show x > 23 by omega)]
    exact Ev.bind (s1 hc) (Ev.now _)
  · simp only [if_neg q1]
    refine Ev.bind (s1 (ha (by omega))) ?_
    by_cases q2 : x > 23
    · simp only [if_true, if_pos q2]
      exact Ev.bind (s1 hc) (Ev.now _)
    · simp only [if_true, if_neg q2]
      refine Ev.bind (s1 (hb (by omega))) ?_
      simp only [if_true]
      exact Ev.bind (s1 hc) (Ev.now _)
theorem num_eq' (a : Int) : quaerelaw0_Num.f a = some a := by rw [quaerelaw0_Num.f]
theorem bind_some' {α β : Type} (a : α) (f : α → Option β) : (some a).bind f = f a := by rw [Option.bind_some]
theorem small_size {s : ByteArray} (h : s.size ≤ 5) : 1 + s.size ≤ 9223372036854775807 := by omega
theorem numbers_end (x : Nat) (hx : x < 100000) (s : ByteArray) (h : Digits x s.data.toList) :
    Ev (fun k => quaerelaw21_LexNumbers.l0 k (x : Int) s 0) true := by
  have hh := h
  obtain ⟨h1, h2, h3, h4⟩ := h
  have l5 : s.data.toList.length ≤ 5 := (digits_len hh 5 (by decide)).mpr (by rw [p5]; omega)
  have l4 := digits_len hh 4 (by decide)
  have l2 := digits_len hh 2 (by decide)
  rw [p4] at l4
  rw [p2] at l2
  have hs : s.size ≤ 5 := by rw [size_eq]; exact l5
  have n4 : numOk s.data.toList 4 = true ↔ (x : Int) < 10000 := by
    unfold numOk; simp only [decide_eq_true_eq]
    constructor
    · rintro ⟨_, h, _⟩; exact l4.mp (by omega)
    · intro h; exact ⟨h2, by have := l4.mpr h; omega, h4⟩
  have n2 : (numOk s.data.toList 2 = true ∧ val s.data.toList 0 ≤ 23) ↔ (x : Int) ≤ 23 := by
    unfold numOk; simp only [decide_eq_true_eq, h3]
    constructor
    · rintro ⟨_, h⟩; exact h
    · intro h; exact ⟨⟨h2, by have := l2.mpr (by omega); omega, h4⟩, h⟩
  have sz : ∀ c : UInt8, ((⟨#[c]⟩ : ByteArray) ++ s).size ≤ 2048 := fun c => by
    have := app_size (⟨#[c]⟩ : ByteArray) s
    rw [one_size] at this
    omega
  have t2 : told s = if (x : Int) < 10000 then ([mkW (2, s.data.toList)], 0) else ([], 2100) := by
    by_cases q : (x : Int) < 10000
    · rw [if_pos q]; exact told_of (t := s) (ws := [(2, s.data.toList)]) (by omega) (by rw [lex_number h1 h2, if_pos (n4.mpr q)])
    · rw [if_neg q]; exact told_none (by rw [lex_number h1 h2, if_neg (fun z => q (n4.mp z))])
  have t1 : told ((⟨#[88]⟩ : ByteArray) ++ s) = if (x : Int) ≤ 23 then ([mkW (1, 88 :: s.data.toList)], 0) else ([], 2100) := by
    by_cases q : (x : Int) ≤ 23
    · rw [if_pos q]; exact told_of (sz 88) (by rw [one_list, lex_var h1, if_pos (n2.mpr q)])
    · rw [if_neg q]; exact told_none (by rw [one_list, lex_var h1, if_neg (fun z => q (n2.mp z))])
  have t0 : told ((⟨#[48]⟩ : ByteArray) ++ s) = ([], 2100) := told_none (by rw [one_list]; exact lex_zero h1 h2)
  have t9 : told ((⟨#[97]⟩ : ByteArray) ++ s) = ([mkW (0, 97 :: s.data.toList)], 0) := told_of (ws := [(0, 97 :: s.data.toList)]) (sz 97) (by rw [one_list]; exact lex_name h1 (by omega))
  have L2 := lex_eq s
  have L1 := lex_eq ((⟨#[88]⟩ : ByteArray) ++ s)
  have L0 := lex_eq ((⟨#[48]⟩ : ByteArray) ++ s)
  have L9 := lex_eq ((⟨#[97]⟩ : ByteArray) ++ s)
  rw [t2] at L2
  rw [t1] at L1
  rw [t0] at L0
  rw [t9] at L9
  refine Ev.step (fun k => by rw [quaerelaw21_LexNumbers.l0]) ?_
  simp only [gt_iff_lt, if_neg (show ¬ ((0 : Int) < 0) by decide), toList_data, if_neg h2, if_pos (small_size hs)]
  refine Ev.bind L2 (Ev.bind L1 (Ev.bind L0 (Ev.bind L9 ?_)))
  simp only [num_eq', bind_some']
  have c1 : ¬ (((((if (x : Int) < 10000 then ([mkW (2, s.data.toList)], (0 : Int)) else ([], 2100)).2 == 0) != (decide ((x : Int) < 10000))) = true)) := by
    by_cases q : (x : Int) < 10000
    · rw [if_pos q, decide_eq_true q]; simp
    · rw [if_neg q, decide_eq_false q]; simp
  have c2 : ¬ (((((if (x : Int) ≤ 23 then ([mkW (1, 88 :: s.data.toList)], (0 : Int)) else ([], 2100)).2 == 0) != (decide ((x : Int) ≤ 23))) = true)) := by
    by_cases q : (x : Int) ≤ 23
    · rw [if_pos q, decide_eq_true q]; simp
    · rw [if_neg q, decide_eq_false q]; simp
  simp only [if_neg c1, if_neg c2, if_true]
  have hs9 := small_size hs
  rw [show ((0 : Int) != 0) = false from rfl]
  refine numbers_j1 (x : Int) s hs9 _ _ _ (fun q => ?_) (fun q => ?_) ?_
  · rw [if_pos q, ← mkW_of 2 s _ rfl]
  · rw [if_pos q, ← mkW_of 1 _ _ (one_list s 88)]
  · rw [← mkW_of 0 _ _ (one_list s 97)]
theorem digit_byte (n : Nat) (h : n < 10) : (UInt8.ofNat (48 + n)).toNat = 48 + n := by rw [UInt8.toNat_ofNat']; omega
theorem numbers_l0 (x : Nat) (hx : x < 100000) : ∀ (n y : Nat) (s : ByteArray), y = n → s.size ≤ 10 → y ≤ x → s.size + (if y = 0 then 0 else 1) ≤ 10 →
    (∀ c ∈ s.data.toList, dg c = true) → (x : Int) = (y : Int) * 10 ^ s.data.toList.length + val s.data.toList 0 → (y = 0 → s.data.toList ≠ [] → (s.data.toList.head? ≠ some 48 ∨ s.data.toList.length = 1)) → (y ≠ 0 → s.size ≤ 5 ∧ (10 : Int) ^ s.size ≤ 100000) →
    Ev (fun k => quaerelaw21_LexNumbers.l0 k (x : Int) s (y : Int)) true := by
  intro n
  induction n using Nat.strongRecOn with
  | _ n ih =>
    intro y s hy hsz hyx hs1 hd hv hlead hpow
    subst hy
    -- one digit more
    have more : (y ≠ 0 ∨ s.data.toList = []) → Ev (fun k => ((some (([(wrap64 (48 + (Int.tmod (y : Int) 10))) % 256] : List Int) : List Int)).bind fun y223 => (if (strOfNums y223).size + s.size ≤ 9223372036854775807 then (quaerelaw21_LexNumbers.l0 k (x : Int) ((strOfNums y223) ++ s) (wrap64 (Int.tdiv (y : Int) 10))) else (none)))) true := by
      intro hc
      have e1 : (wrap64 (48 + (Int.tmod (y : Int) 10))) % 256 = ((48 + y % 10 : Nat) : Int) := by
        rw [Int.tmod_eq_emod_of_nonneg (by omega), wrap_small (by omega) (by omega)]; omega
      have e2 : wrap64 (Int.tdiv (y : Int) 10) = ((y / 10 : Nat) : Int) := by
        rw [Int.tdiv_eq_ediv_of_nonneg (by omega), wrap_small (by omega) (by omega)]; omega
      simp only [Option.bind_some, e1, e2, strOfNums_size, List.length_cons, List.length_nil, if_pos (show 0 + 1 + s.size ≤ 9223372036854775807 by omega)]
      have el : ((strOfNums [((48 + y % 10 : Nat) : Int)]) ++ s).data.toList = UInt8.ofNat (48 + y % 10) :: s.data.toList := by
        rw [app_list, strOfNums_data, List.map_cons, List.map_nil, Int.toNat_natCast]; rfl
      have es : ((strOfNums [((48 + y % 10 : Nat) : Int)]) ++ s).size = s.size + 1 := by rw [app_size, strOfNums_size]; simp; omega
      have hb := digit_byte (y % 10) (by omega)
      have hdg : dg (UInt8.ofNat (48 + y % 10)) = true := by unfold dg; rw [hb]; exact decide_eq_true (by omega)
      by_cases y0 : y = 0
      · have hs0 : s.data.toList = [] := hc.resolve_left (fun z => z y0)
        subst y0
        have hx0 : x = 0 := by rw [hs0] at hv; simp [val] at hv; omega
        have := numbers_end x hx ((strOfNums [((48 + 0 % 10 : Nat) : Int)]) ++ s) ?_
        · exact this
        · rw [el, hs0]
          refine ⟨?_, by simp, ?_, .inr rfl⟩
          · intro c hc; simp at hc; rw [hc]; decide
          · rw [hx0]; rfl
      · have hp := hpow y0
        refine ih (y / 10) (by omega) (y / 10) _ rfl (by rw [es]; omega) (by omega) ?_ ?_ ?_ ?_ ?_
        · rw [es]; split <;> omega
        · rw [el]; intro c hc
          rcases List.mem_cons.mp hc with rfl | hc
          · exact hdg
          · exact hd c hc
        · rw [el]; simp only [List.length_cons, val]
          rw [val_app, hb, hv]
          have e : (10 : Int) ^ (s.data.toList.length + 1) = 10 * 10 ^ s.data.toList.length := by rw [Int.pow_succ, Int.mul_comm]
          rw [e, ← Int.mul_assoc, ← Int.add_assoc, ← Int.add_mul]
          congr 2
          omega
        · intro z _
          rw [el]
          left
          simp only [List.head?_cons, ne_eq, Option.some.injEq]
          intro e
          have := congrArg UInt8.toNat e
          rw [hb] at this
          have : (48 : UInt8).toNat = 48 := rfl
          omega
        · intro z
          rw [es]
          -- two digits more fit below 100000
          have h1 : (10 : Int) ^ (s.size + 1) ≤ 100000 := by
            have e : (10 : Int) ^ (s.size + 1) = 10 * 10 ^ s.size := by rw [Int.pow_succ, Int.mul_comm]
            have hvl := (val_lt s.data.toList hd).1
            rw [← size_eq] at hv
            have h10 : 10 * (10 : Int) ^ s.size ≤ (y : Int) * 10 ^ s.size := Int.mul_le_mul_of_nonneg_right (by omega) (by have := pow_pos10 s.size; omega)
            omega
          refine ⟨?_, h1⟩
          apply Decidable.byContradiction
          intro hc5
          have e : (10 : Int) ^ (s.size + 1) = 10 ^ (s.size + 1 - 6) * 1000000 := by
            rw [← p6, ← Int.pow_add, Nat.sub_add_cancel (by omega)]
          have hpp := pow_pos10 (s.size + 1 - 6)
          omega
    refine Ev.congr (f := fun k => quaerelaw21_LexNumbers.l0 k (x : Int) s (y : Int)) (fun k => rfl) ?_
    by_cases y0 : y = 0
    · by_cases hs0 : s.data.toList = []
      · refine Ev.step (fun k => by rw [quaerelaw21_LexNumbers.l0]) ?_
        simp only [if_neg (show ¬ ((y : Int) > 0) by omega), toList_data, hs0, if_true]
        exact more (.inr hs0)
      · have := numbers_end x hx s ⟨hd, hs0, by rw [hv, y0]; simp, hlead y0 hs0⟩
        rw [y0]; exact this
    · refine Ev.step (fun k => by rw [quaerelaw21_LexNumbers.l0]) ?_
      simp only [if_pos (show ((y : Int) > 0) by omega)]
      exact more (.inl y0)
theorem lexNumbers (a0 : Int) : Ev (fun k => quaerelaw21_LexNumbers.f k a0) true := by
  simp only [quaerelaw21_LexNumbers.f]
  refine Ev.bind awake_ev ?_
  simp only [if_true]
  obtain ⟨x, hx, h1⟩ : ∃ x : Nat, wrap64 (Int.tmod (IntKind.u64.wrap a0) 100000) = (x : Int) ∧ x < 100000 := by
    have hw : 0 ≤ IntKind.u64.wrap a0 := by
      have : IntKind.u64.wrap a0 = a0 % 18446744073709551616 := by rfl
      rw [this]; omega
    have ht : Int.tmod (IntKind.u64.wrap a0) 100000 = (IntKind.u64.wrap a0) % 100000 := Int.tmod_eq_emod_of_nonneg hw
    rw [ht]
    refine ⟨(IntKind.u64.wrap a0 % 100000).toNat, ?_, ?_⟩
    · rw [wrap_small (by omega) (by omega)]; omega
    · omega
  rw [hx]
  exact numbers_l0 x h1 x x _ rfl (by decide) (Nat.le_refl _) (by split <;> decide) (by intro c hc; cases hc) (by simp [val]) (by intro _ h; exact absurd rfl h) (by intro _; decide)
end Go.Proofs.Ytajdnphpjlfajaa.LexPlain
