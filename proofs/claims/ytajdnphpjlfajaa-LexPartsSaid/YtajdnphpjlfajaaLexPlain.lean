/- What the two lexers compute, in plain lists: both cut a text as 'lexL' says. No condition beyond the bound on texts. -/
import Derived.Test.YtajdnphpjlfajaaQx6
namespace Go.Proofs.Ytajdnphpjlfajaa.LexPlain
open Go.RowKit Go.Proofs.Ytajdnphpjlfajaa.Q Go.Proofs.YtajdnphpjlfajaaW.PrintWords Go.Proofs.YtajdnphpjlfajaaW.PrintLast

def sm (c : UInt8) : Bool := decide (97 ≤ c.toNat ∧ c.toNat ≤ 122)
def dg (c : UInt8) : Bool := decide (48 ≤ c.toNat ∧ c.toNat ≤ 57)
def cls (b : Bool) (c : UInt8) : Bool := dg c || (b && sm c)
theorem ge_dec (x : Int) (a b : Nat) (n : Nat) (h : x = (n : Int)) : (if x ≥ (a : Int) then some (decide (x ≤ (b : Int))) else some false) = some (decide (a ≤ n ∧ n ≤ b)) := by
  subst h
  by_cases h1 : a ≤ n
  · rw [if_pos (by omega)]; simp [h1]
  · rw [if_neg (by omega)]; simp [h1]
theorem small_eq (c : UInt8) : lex_small.f (c.toNat : Int) = some (sm c) := ge_dec _ 97 122 c.toNat rfl
theorem digit_eq (c : UInt8) : lex_digit.f (c.toNat : Int) = some (dg c) := ge_dec _ 48 57 c.toNat rfl
theorem rsmall_eq (c : UInt8) : quaereref21_small.f (c.toNat : Int) = some (sm c) := ge_dec _ 97 122 c.toNat rfl
theorem rdigit_eq (c : UInt8) : quaereref21_digit.f (c.toNat : Int) = some (dg c) := ge_dec _ 48 57 c.toNat rfl

theorem wrap_small {n : Int} (h0 : -9223372036854775808 ≤ n) (h1 : n ≤ 9223372036854775807) : wrap64 n = n := by unfold wrap64; omega
theorem size_eq (t : ByteArray) : t.size = t.data.toList.length := by rw [Array.length_toList]; rfl
theorem drop_cons {t : ByteArray} {i : Nat} {c : UInt8} {r : List UInt8} (h : t.data.toList.drop i = c :: r) :
    i < t.size ∧ bt t (i : Int) = (c.toNat : Int) ∧ t.data.toList.drop (i + 1) = r := by
  have h1 : i < t.data.toList.length := by
    apply Decidable.byContradiction; intro hn
    rw [List.drop_eq_nil_of_le (by omega)] at h; cases h
  have h2 : t.data.toList[i] = c := by
    have := @List.getElem_cons_drop _ t.data.toList i h1
    rw [h] at this; exact (List.cons.inj this).1
  refine ⟨by rw [size_eq]; exact h1, ?_, ?_⟩
  · have hs : i < t.size := by rw [size_eq]; exact h1
    have : (i : Int).toNat = i := by omega
    unfold bt
    rw [dif_pos (by rw [this]; exact hs)]
    have e : t[(i : Int).toNat]'(by rw [this]; exact hs) = c := by
      rw [← h2]; simp only [this]; rfl
    rw [e]
  · have := @List.getElem_cons_drop _ t.data.toList i h1
    rw [h] at this; exact (List.cons.inj this).2
theorem drop_nil {t : ByteArray} {i : Nat} (h : t.data.toList.drop i = []) : t.size ≤ i := by
  rw [size_eq]; exact List.drop_eq_nil_iff.mp h
theorem drop_len {t : ByteArray} {i : Nat} {l : List UInt8} (h : t.data.toList.drop i = l) : t.size - i = l.length := by
  rw [← h, List.length_drop, size_eq]
theorem drop_more {t : ByteArray} {i m : Nat} {l : List UInt8} (h : t.data.toList.drop i = l) : t.data.toList.drop (i + m) = l.drop m := by
  rw [← h, List.drop_drop]
theorem extract_list (t : ByteArray) (i j : Nat) : (t.extract i j).data.toList = (t.data.toList.drop i).take (j - i) := by
  rw [ByteArray.data_extract, Array.toList_extract]
theorem toList_data (t : ByteArray) : t.toList = t.data.toList := by
  exact ByteArray.toList_eq t

/-- The run of digits (and letters). -/
theorem run_eq (t : ByteArray) (hn : t.size ≤ 140737488351232) (b : Bool) : ∀ (l : List UInt8) (i k : Nat), t.data.toList.drop i = l → l.length < k →
    lex_run.l0 k t (i : Int) b = some (((i + (l.takeWhile (cls b)).length : Nat)) : Int) := by
  intro l
  induction l with
  | nil =>
    intro i k h hk
    obtain ⟨k, rfl⟩ : ∃ m, k = m + 1 := ⟨k - 1, by omega⟩
    have := drop_nil h
    simp only [lex_run.l0]
    rw [if_neg (by omega)]; simp
  | cons c r ih =>
    intro i k h hk
    simp only [List.length_cons] at hk
    obtain ⟨k, rfl⟩ : ∃ m, k = m + 1 := ⟨k - 1, by omega⟩
    obtain ⟨h1, h2, h3⟩ := drop_cons h
    simp only [lex_run.l0]
    rw [if_pos (by omega), if_pos (by omega), h2, digit_eq, small_eq, wrap_small (by omega) (by omega)]
    simp only [Option.bind_some]
    have hi := ih (i + 1) k h3 (by omega)
    rw [Int.natCast_add, Int.natCast_one] at hi
    by_cases hd : dg c = true
    · rw [if_pos hd, hi]; simp only [List.takeWhile_cons, cls, hd, Bool.true_or, if_true, List.length_cons]; congr 2; omega
    · rw [if_neg hd]
      cases b with
      | false => simp [cls, hd]
      | true =>
        by_cases hs : sm c = true
        · simp only [if_true, hs]; rw [hi]; simp only [List.takeWhile_cons, cls, hd, hs, Bool.and_true, Bool.or_true, if_true, List.length_cons]; congr 2; omega
        · simp [cls, hd, hs]
theorem digits_eq (t : ByteArray) (hn : t.size ≤ 140737488351232) : ∀ (l : List UInt8) (i k : Nat), t.data.toList.drop i = l → l.length < k →
    quaereref21_digits.l0 k t (i : Int) = some (((i + (l.takeWhile dg).length : Nat)) : Int) := by
  intro l
  induction l with
  | nil =>
    intro i k h hk
    obtain ⟨k, rfl⟩ : ∃ m, k = m + 1 := ⟨k - 1, by omega⟩
    have := drop_nil h
    simp only [quaereref21_digits.l0]
    rw [if_neg (by omega)]; simp
  | cons c r ih =>
    intro i k h hk
    simp only [List.length_cons] at hk
    obtain ⟨k, rfl⟩ : ∃ m, k = m + 1 := ⟨k - 1, by omega⟩
    obtain ⟨h1, h2, h3⟩ := drop_cons h
    simp only [quaereref21_digits.l0]
    rw [if_pos (by omega), if_pos (by omega), h2, rdigit_eq, wrap_small (by omega) (by omega)]
    simp only [Option.bind_some]
    have hi := ih (i + 1) k h3 (by omega)
    rw [Int.natCast_add, Int.natCast_one] at hi
    by_cases hd : dg c = true
    · rw [if_pos hd, hi]; simp only [List.takeWhile_cons, hd, if_true, List.length_cons]; congr 2; omega
    · rw [if_neg hd]; simp [hd]

/-! ### Numbers -/
def numOk (d : List UInt8) (m : Int) : Bool := decide (d ≠ [] ∧ (d.length : Int) ≤ m ∧ (d.head? ≠ some 48 ∨ d.length = 1))
def val : List UInt8 → Int → Int
  | [], a => a
  | c :: r, a => val r (10 * a + ((c.toNat : Int) - 48))
theorem ext_list {a b : ByteArray} (h : a.data.toList = b.data.toList) : a = b := by
  cases a; cases b; simp only [ByteArray.mk.injEq]; exact Array.toList_inj.mp h
theorem u8_eq (c : UInt8) (n : Nat) (h : n < 256) : (c.toNat : Int) = (n : Int) ↔ c = UInt8.ofNat n := by
  constructor
  · intro e
    apply UInt8.toNat_inj.mp
    rw [UInt8.toNat_ofNat']
    omega
  · intro e; rw [e, UInt8.toNat_ofNat']; omega
theorem bt_zero {a : ByteArray} {c : UInt8} {r : List UInt8} (h : a.data.toList = c :: r) : bt a 0 = (c.toNat : Int) := by
  have := (drop_cons (t := a) (i := 0) (c := c) (r := r) (by simpa using h)).2.1
  simpa using this
theorem number_eq (a : ByteArray) (d : List UInt8) (m : Int) (h : a.data.toList = d) : lex_number.f a m = some (numOk d m) := by
  have hs : a.size = d.length := by rw [size_eq, h]
  unfold lex_number.f numOk
  rw [toList_data, h]
  cases d with
  | nil => simp
  | cons c r =>
    rw [if_neg (by simp), bt_zero h]
    have hl : (a.size : Int) = ((c :: r).length : Int) := by rw [hs]
    by_cases h1 : (a.size : Int) ≤ m
    · rw [if_pos h1, if_pos (by rw [hl]; simp only [List.length_cons]; omega)]
      by_cases h2 : c = 48
      · subst h2
        rw [if_pos (by decide)]
        rw [hl] at h1 ⊢
        simp only [ne_eq, reduceCtorEq, not_false_eq_true, h1, List.head?_cons, not_true_eq_false, false_or, true_and, Option.some.injEq]
        by_cases h3 : (48 :: r).length = 1
        · rw [h3]; rfl
        · have : ¬ (((48 :: r).length : Int) = 1) := by omega
          rw [decide_eq_false h3]; exact beq_eq_false_iff_ne.mpr this
      · rw [if_neg (by intro e; exact h2 ((u8_eq c 48 (by decide)).mp e))]
        rw [hl] at h1
        simp only [ne_eq, reduceCtorEq, not_false_eq_true, h1, List.head?_cons, Option.some.injEq, h2, true_or, and_self, decide_true]
    · rw [if_neg h1]
      rw [hl] at h1
      rw [decide_eq_false (fun hx => h1 hx.2.1)]
theorem pow10_4 : ∀ n : Nat, n ≤ 4 → (10 : Int) ^ n ≤ 10000
  | 0, _ => by decide
  | 1, _ => by decide
  | 2, _ => by decide
  | 3, _ => by decide
  | 4, _ => by decide
  | n + 5, h => by omega
theorem pow_pos10 (n : Nat) : (1 : Int) ≤ 10 ^ n := by
  have : (0 : Int) < 10 ^ n := Int.pow_pos (by decide)
  omega
theorem step10 {acc dv : Int} {n : Nat} (hd : 0 ≤ dv ∧ dv ≤ 9) (h : (acc + 1) * 10 ^ (n + 1) ≤ 10000) : (10 * acc + dv + 1) * 10 ^ n ≤ 10000 := by
  have e : (acc + 1) * 10 ^ (n + 1) = (10 * (acc + 1)) * 10 ^ n := by rw [Int.pow_succ]; rw [Int.mul_comm (10 ^ n) 10, ← Int.mul_assoc, Int.mul_comm (acc + 1) 10]
  rw [e] at h
  exact Int.le_trans (Int.mul_le_mul_of_nonneg_right (by omega) (by have := pow_pos10 n; omega)) h
theorem le10 {acc : Int} {n : Nat} (h0 : 0 ≤ acc) (h : (acc + 1) * 10 ^ n ≤ 10000) : acc ≤ 10000 := by
  have h1 := pow_pos10 n
  have : (acc + 1) * 1 ≤ (acc + 1) * 10 ^ n := Int.mul_le_mul_of_nonneg_left h1 (by omega)
  omega
theorem digit_val {c : UInt8} (h : dg c = true) : 0 ≤ (c.toNat : Int) - 48 ∧ (c.toNat : Int) - 48 ≤ 9 := by
  unfold dg at h; have := of_decide_eq_true h; omega
theorem Number_l0 (t : ByteArray) : ∀ (d : List UInt8) (i k : Nat) (acc : Int), t.data.toList.drop i = d → (∀ c ∈ d, dg c = true) → 0 ≤ acc → (acc + 1) * 10 ^ d.length ≤ 10000 → t.size ≤ 140737488351232 → d.length < k →
    lex_Number.l0 k t acc (t.size : Int) (i : Int) = some (val d acc) := by
  intro d
  induction d with
  | nil =>
    intro i k acc h _ _ _ _ hk
    obtain ⟨k, rfl⟩ : ∃ m, k = m + 1 := ⟨k - 1, by omega⟩
    have := drop_nil h
    simp only [lex_Number.l0]
    rw [if_neg (by omega)]; rfl
  | cons c r ih =>
    intro i k acc h hd h0 hb hn hk
    simp only [List.length_cons] at hk hb
    obtain ⟨k, rfl⟩ : ∃ m, k = m + 1 := ⟨k - 1, by omega⟩
    obtain ⟨h1, h2, h3⟩ := drop_cons h
    have hv := digit_val (hd c (List.mem_cons_self ..))
    have ha := le10 h0 hb
    simp only [lex_Number.l0]
    rw [if_pos (by omega), if_pos (by omega), if_pos (by omega), h2]
    have e : wrap64 ((wrap64 (10 * acc)) + (((c.toNat : Int) - 48) % 256)) = 10 * acc + ((c.toNat : Int) - 48) := by unfold wrap64; omega
    rw [e, wrap_small (by omega) (by omega)]
    have := ih (i + 1) k (10 * acc + ((c.toNat : Int) - 48)) h3 (fun x hx => hd x (List.mem_cons_of_mem _ hx)) (by omega) (step10 hv hb) hn (by omega)
    rw [Int.natCast_add, Int.natCast_one] at this
    rw [this]; rfl
theorem Number_eq (a : ByteArray) (d : List UInt8) (h : a.data.toList = d) (hd : ∀ c ∈ d, dg c = true) (hl : d.length ≤ 4) (k : Nat) (hk : d.length < k) : lex_Number.f k a = some (val d 0) := by
  have hs : a.size = d.length := by rw [size_eq, h]
  have := Number_l0 a d 0 k 0 (by simpa using h) hd (by decide) (by
    have := pow10_4 d.length hl
    omega) (by omega) hk
  exact this
theorem rNumber_l0 (t : ByteArray) : ∀ (d : List UInt8) (i k : Nat) (acc : Int), t.data.toList.drop i = d → (∀ c ∈ d, dg c = true) → 0 ≤ acc → (acc + 1) * 10 ^ d.length ≤ 10000 → t.size ≤ 140737488351232 → d.length < k →
    quaereref21_Number.l0 k t acc (i : Int) = some (val d acc, true) := by
  intro d
  induction d with
  | nil =>
    intro i k acc h _ _ _ _ hk
    obtain ⟨k, rfl⟩ : ∃ m, k = m + 1 := ⟨k - 1, by omega⟩
    have := drop_nil h
    simp only [quaereref21_Number.l0]
    rw [if_neg (by omega)]; rfl
  | cons c r ih =>
    intro i k acc h hd h0 hb hn hk
    simp only [List.length_cons] at hk hb
    obtain ⟨k, rfl⟩ : ∃ m, k = m + 1 := ⟨k - 1, by omega⟩
    obtain ⟨h1, h2, h3⟩ := drop_cons h
    have hc := hd c (List.mem_cons_self ..)
    have hv := digit_val hc
    have ha := le10 h0 hb
    simp only [quaereref21_Number.l0]
    rw [if_pos (by omega), if_pos (by omega), h2, rdigit_eq, hc]
    simp only [Option.bind_some, if_true]
    have e : wrap64 ((wrap64 (acc * 10)) + (((c.toNat : Int) - 48) % 256)) = 10 * acc + ((c.toNat : Int) - 48) := by unfold wrap64; omega
    rw [e, wrap_small (by omega) (by omega)]
    have := ih (i + 1) k (10 * acc + ((c.toNat : Int) - 48)) h3 (fun x hx => hd x (List.mem_cons_of_mem _ hx)) (by omega) (step10 hv hb) hn (by omega)
    rw [Int.natCast_add, Int.natCast_one] at this
    rw [this]; rfl
theorem rNumber_eq (a : ByteArray) (d : List UInt8) (h : a.data.toList = d) (hd : ∀ c ∈ d, dg c = true) (k : Nat) (hk : d.length + 1 < k) :
    quaereref21_Number.f k a = some (if numOk d 4 = true then (val d 0, true) else (0, false)) := by
  have hs : a.size = d.length := by rw [size_eq, h]
  obtain ⟨k, rfl⟩ : ∃ m, k = m + 1 := ⟨k - 1, by omega⟩
  unfold quaereref21_Number.f numOk
  simp only [quaereref21_Number.j0]
  rw [hs]
  by_cases h1 : d = []
  · subst h1; simp
  have hpos : 0 < d.length := List.length_pos_iff.mpr h1
  rw [if_neg (by omega)]
  by_cases h4 : d.length ≤ 4
  · rw [if_neg (by omega)]
    have hL := rNumber_l0 a d 0 k 0 (by simpa using h) hd (by decide) (by
      have := pow10_4 d.length h4
      omega) (by omega) (by omega)
    rw [show ((0 : Nat) : Int) = 0 from rfl] at hL
    rw [hL]
    obtain ⟨c, r, rfl⟩ : ∃ c r, d = c :: r := by cases d with | nil => exact absurd rfl h1 | cons c r => exact ⟨c, r, rfl⟩
    rw [bt_zero h]
    by_cases hl : ((c :: r).length : Int) > 1
    · rw [if_pos hl, if_pos (by omega)]
      by_cases h2 : c = 48
      · subst h2
        have : ¬ ((48 :: r).length = 1) := by omega
        rw [show (((48 : UInt8).toNat : Int) == 48) = true from rfl]
        simp only [if_true]
        rw [if_neg (by simp only [decide_eq_true_eq]; exact fun hx => hx.2.2.elim (fun h => h rfl) this)]
      · have : ((c.toNat : Int) == 48) = false := beq_eq_false_iff_ne.mpr (fun e => h2 ((u8_eq c 48 (by decide)).mp e))
        rw [this, if_neg (by decide), if_pos (by simp only [decide_eq_true_eq]; exact ⟨by simp, by omega, .inl (by simpa using h2)⟩)]
    · rw [if_neg hl, if_neg (by decide), if_pos (by simp only [decide_eq_true_eq]; exact ⟨by simp, by omega, .inr (by omega)⟩)]
  · rw [if_pos (by omega)]
    simp only [if_true]
    rw [if_neg (by simp only [decide_eq_true_eq]; exact fun hx => by have := hx.2.1; omega)]

/-! ### Words -/
def marks : List UInt8 := [40, 41, 44, 61, 126, 38, 124, 58]
def tok : List UInt8 → Option (Int × Nat)
  | [] => none
  | c :: r =>
    if sm c = true then (if ((c :: r).takeWhile (cls true)).length ≤ 8 then some (0, ((c :: r).takeWhile (cls true)).length) else none)
    else if c = 88 then (if numOk (r.takeWhile dg) 2 = true ∧ val (r.takeWhile dg) 0 ≤ 23 then some (1, (r.takeWhile dg).length + 1) else none)
    else if dg c = true then (if numOk ((c :: r).takeWhile dg) 4 = true then some (2, ((c :: r).takeWhile dg).length) else none)
    else if c = 45 ∧ r.head? = some 62 then some (3, 2)
    else if c ∈ marks then some (3, 1)
    else none
theorem take_while_le {α : Type} (p : α → Bool) (l : List α) : (l.takeWhile p).length ≤ l.length := by
  induction l with
  | nil => simp
  | cons a r ih => simp only [List.takeWhile_cons]; split <;> simp; exact ih
theorem tok_len {l : List UInt8} {k : Int} {m : Nat} (h : tok l = some (k, m)) : 1 ≤ m ∧ m ≤ l.length := by
  cases l with
  | nil => cases h
  | cons c r =>
    simp only [tok] at h
    have t1 := take_while_le (cls true) (c :: r)
    have t2 := take_while_le dg r
    have t3 := take_while_le dg (c :: r)
    by_cases h1 : sm c = true
    · rw [if_pos h1] at h
      split at h
      · cases h
        exact ⟨by simp [cls, h1], t1⟩
      · cases h
    rw [if_neg h1] at h
    by_cases h2 : c = 88
    · rw [if_pos h2] at h
      split at h
      · cases h; simp only [List.length_cons]; omega
      · cases h
    rw [if_neg h2] at h
    by_cases h3 : dg c = true
    · rw [if_pos h3] at h
      split at h
      · cases h
        exact ⟨by simp [h3], t3⟩
      · cases h
    rw [if_neg h3] at h
    by_cases h4 : c = 45 ∧ r.head? = some 62
    · rw [if_pos h4] at h; cases h
      cases r with
      | nil => cases h4.2
      | cons d s => simp
    rw [if_neg h4] at h
    by_cases h5 : c ∈ marks
    · rw [if_pos h5] at h; cases h; simp
    · rw [if_neg h5] at h; cases h
def lexL : List UInt8 → Option (List (Int × List UInt8))
  | [] => some []
  | c :: r =>
    if c = 32 then lexL r
    else match tok (c :: r) with
      | none => none
      | some (k, m) => (lexL (r.drop (m - 1))).map fun ws => (k, (c :: r).take m) :: ws
termination_by l => l.length
decreasing_by
  · simp
  · simp only [List.length_drop, List.length_cons]; omega
theorem lexL_nil : lexL [] = some [] := by rw [lexL]
theorem lexL_blank (r : List UInt8) : lexL (32 :: r) = lexL r := by rw [lexL, if_pos rfl]
theorem lexL_none {c : UInt8} {r : List UInt8} (h : c ≠ 32) (ht : tok (c :: r) = none) : lexL (c :: r) = none := by rw [lexL, if_neg h, ht]
theorem lexL_some {c : UInt8} {r : List UInt8} {k : Int} {m : Nat} (h : c ≠ 32) (ht : tok (c :: r) = some (k, m)) :
    lexL (c :: r) = (lexL ((c :: r).drop m)).map fun ws => (k, (c :: r).take m) :: ws := by
  rw [lexL, if_neg h, ht]
  have := tok_len ht
  obtain ⟨m, rfl⟩ : ∃ q, m = q + 1 := ⟨m - 1, by omega⟩
  rfl

def mkW (x : Int × List UInt8) : S33 := ⟨x.1, ⟨x.2.toArray⟩⟩
def res (acc : List S33) : Option (List (Int × List UInt8)) → List S33 × Int
  | none => ([], 2100)
  | some ws => (acc ++ ws.map mkW, 0)
theorem mk_extract (t : ByteArray) (i m : Nat) (l : List UInt8) (h : t.data.toList.drop i = l) (k : Int) : (⟨k, t.extract i (i + m)⟩ : S33) = mkW (k, l.take m) := by
  unfold mkW
  congr 1
  apply ext_list
  rw [extract_list, h, Nat.add_sub_cancel_left]
theorem take_drop_while {α : Type} (p : α → Bool) (l : List α) : l.take (l.takeWhile p).length = l.takeWhile p := by
  induction l with
  | nil => simp
  | cons a r ih =>
    simp only [List.takeWhile_cons]
    split
    · simp [ih]
    · simp
theorem while_all {α : Type} (p : α → Bool) (l : List α) : ∀ c ∈ l.takeWhile p, p c = true := by
  induction l with
  | nil => simp
  | cons a r ih =>
    simp only [List.takeWhile_cons]
    split
    · intro c hc
      rcases List.mem_cons.mp hc with rfl | hc
      · assumption
      · exact ih c hc
    · simp
theorem cls_false : cls false = dg := by funext c; simp [cls]
theorem index_mem (c : UInt8) : ∀ l : List UInt8, (0 ≤ Lib.indexByte l c ↔ c ∈ l) := by
  intro l
  induction l with
  | nil => simp [Lib.indexByte]
  | cons b r ih =>
    have := Lib.indexByte_ge r c
    unfold Lib.indexByte
    by_cases h1 : b = c
    · subst h1; simp
    · rw [if_neg (by simpa using h1)]
      by_cases h2 : Lib.indexByte r c = -1
      · rw [h2]
        have : ¬ c ∈ r := fun h => by have := ih.mpr h; omega
        simp [this, Ne.symm h1]
      · rw [if_neg (by simpa using h2)]
        have : c ∈ r := ih.mp (by omega)
        simp [this]; omega
theorem prefix_eq (a : ByteArray) (c : UInt8) (r : List UInt8) (h : a.data.toList = c :: r) : strings_HasPrefix.f a (⟨#[45, 62]⟩ : ByteArray) = some (decide (c = 45 ∧ r.head? = some 62)) := by
  have hs : a.size = r.length + 1 := by rw [size_eq, h]; rfl
  unfold strings_HasPrefix.f stringslite_HasPrefix.f
  have e2 : (((⟨#[45, 62]⟩ : ByteArray).size : Nat) : Int) = 2 := rfl
  rw [e2]
  by_cases h1 : (a.size : Int) ≥ 2
  · rw [if_pos h1, if_pos (by omega), if_pos (by omega)]
    simp only [Option.bind_some]
    rw [toList_data, toList_data, extract_list, h]
    cases r with
    | nil => simp at hs; omega
    | cons d s =>
      by_cases q1 : c = 45
      · by_cases q2 : d = 62
        · subst q1 q2; rfl
        · simp [q1, q2]
      · simp [q1]
  · rw [if_neg h1]
    have : r = [] := List.length_eq_zero_iff.mp (by omega)
    subst this; simp
theorem contains_eq (a : ByteArray) (c : UInt8) (h : a.data.toList = [c]) : strings_Contains.f (⟨#[40, 41, 44, 61, 126, 38, 124, 58]⟩ : ByteArray) a = some (decide (c ∈ marks)) := by
  have hs : a.size = 1 := by rw [size_eq, h]; rfl
  unfold strings_Contains.f
  rw [if_pos hs, h]
  congr 1
  exact decide_eq_decide.mpr (index_mem c marks)

theorem c_ne {c : UInt8} {n : Nat} (hn : n < 256) (h : c ≠ UInt8.ofNat n) : ¬ ((c.toNat : Int) = (n : Int)) := fun e => h ((u8_eq c n hn).mp e)
/-- One word, by the program. -/
theorem lex_word (t : ByteArray) (hn : t.size ≤ 2048) (i : Nat) (c : UInt8) (r : List UInt8) (h : t.data.toList.drop i = c :: r) (acc : List S33) (ha : acc.length ≤ i) (R : List S33 × Int)
    (hbad : tok (c :: r) = none → R = ([], 2100))
    (hgo : ∀ k m, tok (c :: r) = some (k, m) → Ev (fun n => lex_Lex.g1 n t (acc ++ [mkW (k, (c :: r).take m)]) ((i + m : Nat) : Int)) R) :
    Ev (fun n => lex_Lex.j3 n t acc (i : Int)) R := by
  obtain ⟨h1, h2, h3⟩ := drop_cons h
  have hl := drop_len h
  have bad : tok (c :: r) = none → Ev (fun n => lex_Lex.g0 n) R := fun e => by
    rw [hbad e]; exact Ev.step (fun k => by rw [lex_Lex.g0]) (Ev.now _)
  have told : ∀ (k : Int) (m : Nat), tok (c :: r) = some (k, m) → Ev (fun n => lex_Lex.g5 n t acc (i : Int) ((i + m : Nat) : Int) k) R := by
    intro k m e
    have hm := tok_len e
    refine Ev.step (fun n => by rw [lex_Lex.g5]) ?_
    simp only [if_pos (show (0 : Int) ≤ (i : Int) by omega), if_pos (show (i : Int) ≤ ((i + m : Nat) : Int) by omega), if_pos (show ((i + m : Nat) : Int) ≤ (t.size : Int) by simp only [List.length_cons] at *; omega), if_pos (show acc.length < 5864062014805 by omega), Int.toNat_natCast]
    rw [mk_extract t i m (c :: r) h k]
    exact hgo k m e
  refine Ev.step (fun n => by rw [lex_Lex.j3]) ?_
  simp only [if_neg (show ¬ ((i : Int) = (t.size : Int)) by omega), if_pos (show (0 : Int) ≤ (i : Int) by omega), if_pos (show (i : Int) < (t.size : Int) by omega), h2, small_eq, digit_eq, Option.bind_some]
  have w1 : wrap64 ((i : Int) + 1) = ((i + 1 : Nat) : Int) := by unfold wrap64; omega
  have w2 : wrap64 (((i + 1 : Nat) : Int) + 1) = ((i + 2 : Nat) : Int) := by unfold wrap64; omega
  by_cases q1 : sm c = true
  · simp only [if_pos q1]
    refine Ev.step (fun n => by rw [lex_Lex.g2]) ?_
    have hr := run_eq t (by omega) true (c :: r) i ((c :: r).length + 1) h (by omega)
    refine Ev.bind (a := ((i + ((c :: r).takeWhile (cls true)).length : Nat) : Int)) (Ev.of (fun k => lex_run.mono _ _ _ k) hr) ?_
    have htw := take_while_le (cls true) (c :: r)
    by_cases q2 : ((c :: r).takeWhile (cls true)).length ≤ 8
    · simp only [if_neg (show ¬ (wrap64 (((i + ((c :: r).takeWhile (cls true)).length : Nat) : Int) - (i : Int)) > 8) by unfold wrap64; omega)]
      exact told 0 _ (by simp only [tok]; rw [if_pos q1, if_pos q2])
    · simp only [if_pos (show (wrap64 (((i + ((c :: r).takeWhile (cls true)).length : Nat) : Int) - (i : Int)) > 8) by unfold wrap64; omega)]
      exact bad (by simp only [tok]; rw [if_pos q1, if_neg q2])
  simp only [if_neg q1]
  by_cases q2 : c = 88
  · simp only [if_pos (show (c.toNat : Int) = 88 by rw [q2]; rfl)]
    refine Ev.step (fun n => by rw [lex_Lex.g3]) ?_
    have htw := take_while_le dg r
    have hr := run_eq t (by omega) false r (i + 1) (r.length + 1) h3 (by omega)
    rw [cls_false] at hr
    simp only [w1]
    refine Ev.bind (a := ((i + 1 + (r.takeWhile dg).length : Nat) : Int)) (Ev.of (fun k => lex_run.mono _ _ _ k) hr) ?_
    have hx : (t.extract (i + 1) (i + 1 + (r.takeWhile dg).length)).data.toList = r.takeWhile dg := by
      rw [extract_list, h3, Nat.add_sub_cancel_left, take_drop_while]
    simp only [if_pos (show (0 : Int) ≤ ((i + 1 : Nat) : Int) by omega), if_pos (show ((i + 1 : Nat) : Int) ≤ ((i + 1 + (r.takeWhile dg).length : Nat) : Int) by omega), if_pos (show ((i + 1 + (r.takeWhile dg).length : Nat) : Int) ≤ (t.size : Int) by simp only [List.length_cons] at hl; omega), Int.toNat_natCast, number_eq _ _ 2 hx, Option.bind_some]
    by_cases q3 : numOk (r.takeWhile dg) 2 = true
    · simp only [if_pos q3]
      have hq := of_decide_eq_true q3
      refine Ev.bind (a := val (r.takeWhile dg) 0) ⟨(r.takeWhile dg).length + 1, fun k hk => Number_eq _ _ hx (while_all dg r) (by omega) k (by omega)⟩ ?_
      refine Ev.step (fun n => by rw [lex_Lex.j7]) ?_
      by_cases q4 : val (r.takeWhile dg) 0 ≤ 23
      · simp only [if_neg (show ¬ (decide (val (r.takeWhile dg) 0 > 23) = true) by simp only [decide_eq_true_eq]; omega)]
        have e := told 1 ((r.takeWhile dg).length + 1) (by simp only [tok]; rw [if_neg q1, if_pos q2, if_pos ⟨q3, q4⟩])
        rw [show i + ((r.takeWhile dg).length + 1) = i + 1 + (r.takeWhile dg).length by omega] at e
        exact e
      · simp only [if_pos (show (decide (val (r.takeWhile dg) 0 > 23) = true) by simp only [decide_eq_true_eq]; omega)]
        exact bad (by simp only [tok]; rw [if_neg q1, if_pos q2, if_neg (fun z => q4 z.2)])
    · simp only [if_neg q3]
      refine Ev.step (fun n => by rw [lex_Lex.j7]) ?_
      simp only [if_true]
      exact bad (by simp only [tok]; rw [if_neg q1, if_pos q2, if_neg (fun z => q3 z.1)])
  simp only [if_neg (show ¬ ((c.toNat : Int) = 88) from fun e => q2 ((u8_eq c 88 (by decide)).mp e))]
  by_cases q3 : dg c = true
  · simp only [if_pos q3]
    refine Ev.step (fun n => by rw [lex_Lex.g4]) ?_
    have htw := take_while_le dg (c :: r)
    have hr := run_eq t (by omega) false (c :: r) i ((c :: r).length + 1) h (by omega)
    rw [cls_false] at hr
    refine Ev.bind (a := ((i + ((c :: r).takeWhile dg).length : Nat) : Int)) (Ev.of (fun k => lex_run.mono _ _ _ k) hr) ?_
    have hx : (t.extract i (i + ((c :: r).takeWhile dg).length)).data.toList = (c :: r).takeWhile dg := by
      rw [extract_list, h, Nat.add_sub_cancel_left, take_drop_while]
    simp only [if_pos (show (0 : Int) ≤ (i : Int) by omega), if_pos (show (i : Int) ≤ ((i + ((c :: r).takeWhile dg).length : Nat) : Int) by omega), if_pos (show ((i + ((c :: r).takeWhile dg).length : Nat) : Int) ≤ (t.size : Int) by omega), Int.toNat_natCast, number_eq _ _ 4 hx, Option.bind_some]
    by_cases q4 : numOk ((c :: r).takeWhile dg) 4 = true
    · simp only [if_pos q4]
      exact told 2 _ (by simp only [tok]; rw [if_neg q1, if_neg q2, if_pos q3, if_pos q4])
    · simp only [if_neg q4]
      exact bad (by simp only [tok]; rw [if_neg q1, if_neg q2, if_pos q3, if_neg q4])
  simp only [if_neg q3, if_pos (show (i : Int) ≤ (t.size : Int) by omega), w1, w2, Int.toNat_natCast]
  have hx : (t.extract i t.size).data.toList = c :: r := by
    rw [extract_list, h, List.take_of_length_le (by omega)]
  rw [prefix_eq _ c r hx]
  simp only [Option.bind_some]
  by_cases q4 : c = 45 ∧ r.head? = some 62
  · simp only [if_pos (show decide (c = 45 ∧ r.head? = some 62) = true from decide_eq_true q4)]
    refine Ev.step (fun n => by rw [lex_Lex.j9]) ?_
    exact told 3 2 (by simp only [tok]; rw [if_neg q1, if_neg q2, if_neg q3, if_pos q4])
  · simp only [if_neg (show ¬ (decide (c = 45 ∧ r.head? = some 62) = true) by simpa using q4), if_pos (show (i : Int) ≤ ((i + 1 : Nat) : Int) by omega), if_pos (show ((i + 1 : Nat) : Int) ≤ (t.size : Int) by omega)]
    have hx1 : (t.extract i (i + 1)).data.toList = [c] := by
      rw [extract_list, h, Nat.add_sub_cancel_left]; rfl
    rw [contains_eq _ c hx1]
    simp only [Option.bind_some]
    by_cases q5 : c ∈ marks
    · simp only [if_pos (show decide (c ∈ marks) = true from decide_eq_true q5)]
      refine Ev.step (fun n => by rw [lex_Lex.j9]) ?_
      exact told 3 1 (by simp only [tok]; rw [if_neg q1, if_neg q2, if_neg q3, if_neg q4, if_pos q5])
    · simp only [if_neg (show ¬ (decide (c ∈ marks) = true) by simpa using q5)]
      exact bad (by simp only [tok]; rw [if_neg q1, if_neg q2, if_neg q3, if_neg q4, if_neg q5])

theorem lex_l0 (t : ByteArray) (hn : t.size ≤ 2048) : ∀ (n : Nat) (l : List UInt8) (i : Nat) (acc : List S33), l.length = n → t.data.toList.drop i = l → i ≤ t.size → acc.length ≤ i →
    Ev (fun k => lex_Lex.l0 k t acc (i : Int)) (res acc (lexL l)) := by
  intro n
  induction n using Nat.strongRecOn with
  | _ n ih =>
    intro l i acc hln h hi ha
    cases l with
    | nil =>
      have := drop_nil h
      rw [lexL_nil]
      refine Ev.step (fun k => by rw [lex_Lex.l0]) ?_
      simp only [if_neg (show ¬ ((i : Int) < (t.size : Int)) by omega)]
      refine Ev.step (fun k => by rw [lex_Lex.j3]) ?_
      simp only [if_pos (show (i : Int) = (t.size : Int) by omega)]
      have e : res acc (some []) = (acc, 0) := by simp [res]
      rw [e]; exact Ev.now _
    | cons c r =>
      obtain ⟨h1, h2, h3⟩ := drop_cons h
      refine Ev.step (fun k => by rw [lex_Lex.l0]) ?_
      simp only [if_pos (show (i : Int) < (t.size : Int) by omega), if_pos (show (0 : Int) ≤ (i : Int) by omega), h2]
      by_cases q : c = 32
      · subst q
        simp only [if_pos (show ((32 : UInt8).toNat : Int) = 32 from rfl)]
        rw [lexL_blank, show wrap64 ((i : Int) + 1) = ((i + 1 : Nat) : Int) by unfold wrap64; omega]
        exact ih r.length (by rw [← hln]; simp) r (i + 1) acc rfl h3 (by omega) (by omega)
      · simp only [if_neg (show ¬ ((c.toNat : Int) = 32) from fun e => q ((u8_eq c 32 (by decide)).mp e))]
        refine lex_word t hn i c r h acc ha _ (fun e => by rw [lexL_none q e]; rfl) ?_
        intro k m e
        have hm := tok_len e
        have hl := drop_len h
        refine Ev.step (fun n => by rw [lex_Lex.g1]) ?_
        have := ih ((c :: r).drop m).length (by rw [← hln, List.length_drop]; omega) ((c :: r).drop m) (i + m) (acc ++ [mkW (k, (c :: r).take m)]) rfl (drop_more h) (by omega) (by simp; omega)
        rw [lexL_some q e]
        have e2 : res (acc ++ [mkW (k, (c :: r).take m)]) (lexL ((c :: r).drop m)) = res acc ((lexL ((c :: r).drop m)).map fun ws => (k, (c :: r).take m) :: ws) := by
          cases lexL ((c :: r).drop m) with
          | none => rfl
          | some ws => simp [res]
        rw [← e2]; exact this
/-- What the program's lexer computes. -/
def told (t : ByteArray) : List S33 × Int := if t.size > 2048 then ([], 2100) else res [] (lexL t.data.toList)
theorem lex_eq (t : ByteArray) : Ev (fun k => lex_Lex.f k t) (told t) := by
  unfold told
  by_cases hn : t.size > 2048
  · simp only [lex_Lex.f, if_pos hn, if_pos (show (t.size : Int) > 2048 by omega)]
    exact Ev.step (fun k => by rw [lex_Lex.g0]) (Ev.now _)
  · simp only [lex_Lex.f, if_neg hn, if_neg (show ¬ ((t.size : Int) > 2048) by omega)]
    refine Ev.step (fun k => by rw [lex_Lex.g1]) ?_
    exact lex_l0 t (by omega) _ t.data.toList 0 [] rfl rfl (by omega) (by simp)

/-! ### The document's lexer -/
theorem rword_l0 (t : ByteArray) (hn : t.size ≤ 2048) (i : Nat) : ∀ (l : List UInt8) (j k : Nat), t.data.toList.drop j = l → i ≤ j → j ≤ t.size → l.length < k →
    quaereref21_word.l0 k t (i : Int) (j : Int) = some (0, t.extract i (j + (l.takeWhile (cls true)).length), decide (j + (l.takeWhile (cls true)).length - i ≤ 8)) := by
  intro l
  induction l with
  | nil =>
    intro j k h hi hj hk
    obtain ⟨k, rfl⟩ : ∃ m, k = m + 1 := ⟨k - 1, by omega⟩
    have := drop_nil h
    simp only [quaereref21_word.l0]
    rw [if_neg (by omega), if_pos (by omega), if_pos (by omega), if_pos (by omega)]
    have e : wrap64 ((j : Int) - (i : Int)) = ((j - i : Nat) : Int) := by unfold wrap64; omega
    rw [e]
    simp only [Int.toNat_natCast, List.takeWhile_nil, List.length_nil, Nat.add_zero, Option.some.injEq, Prod.mk.injEq, true_and]
    exact decide_eq_decide.mpr (by omega)
  | cons c r ih =>
    intro j k h hi hj hk
    simp only [List.length_cons] at hk
    obtain ⟨k, rfl⟩ : ∃ m, k = m + 1 := ⟨k - 1, by omega⟩
    obtain ⟨h1, h2, h3⟩ := drop_cons h
    simp only [quaereref21_word.l0]
    rw [if_pos (by omega), if_pos (by omega), h2, rsmall_eq, rdigit_eq]
    simp only [Option.bind_some]
    have e1 : wrap64 ((j : Int) + 1) = ((j + 1 : Nat) : Int) := by unfold wrap64; omega
    have hi' := ih (j + 1) k h3 (by omega) (by omega) (by omega)
    have e : wrap64 ((j : Int) - (i : Int)) = ((j - i : Nat) : Int) := by unfold wrap64; omega
    rw [e1, e]
    by_cases q1 : sm c = true
    · rw [if_pos q1, hi']
      simp only [List.takeWhile_cons, cls, q1, Bool.and_true, Bool.or_true, if_true, List.length_cons]
      rw [show j + 1 + (r.takeWhile (cls true)).length = j + ((r.takeWhile (cls true)).length + 1) by omega]
    · rw [if_neg q1]
      by_cases q2 : dg c = true
      · rw [if_pos q2, hi']
        simp only [List.takeWhile_cons, cls, q2, Bool.true_or, if_true, List.length_cons]
        rw [show j + 1 + (r.takeWhile (cls true)).length = j + ((r.takeWhile (cls true)).length + 1) by omega]
      · rw [if_neg q2, if_pos (by omega), if_pos (by omega), if_pos (by omega)]
        have : cls true c = false := by simp [cls, q1, q2]
        simp only [List.takeWhile_cons, this, Bool.false_eq_true, if_false, List.length_nil, Nat.add_zero, Int.toNat_natCast, Option.some.injEq, Prod.mk.injEq, true_and]
        exact decide_eq_decide.mpr (by omega)
/-- What is told of the word at a place. -/
def Told (l : List UInt8) (v : Int × ByteArray × Bool) : Prop :=
  match tok l with
  | none => v.2.2 = false
  | some (k, m) => v.1 = k ∧ v.2.1.data.toList = l.take m ∧ v.2.2 = true
theorem of_none {l : List UInt8} {v : Int × ByteArray × Bool} (h : tok l = none) (e : v.2.2 = false) : Told l v := by unfold Told; rw [h]; exact e
theorem of_some {l : List UInt8} {v : Int × ByteArray × Bool} {k : Int} {m : Nat} (h : tok l = some (k, m)) (e : v.1 = k ∧ v.2.1.data.toList = l.take m ∧ v.2.2 = true) : Told l v := by unfold Told; rw [h]; exact e
theorem take_eq_while {α : Type} (p : α → Bool) (l : List α) : l.take (l.takeWhile p).length = l.takeWhile p := take_drop_while p l
theorem val_ge : ∀ (d : List UInt8) (a : Int), (∀ c ∈ d, dg c = true) → 0 ≤ a → a * 10 ^ d.length ≤ val d a := by
  intro d
  induction d with
  | nil => intro a _ _; simp [val]
  | cons c r ih =>
    intro a hd ha
    have hv := digit_val (hd c (List.mem_cons_self ..))
    have h1 := ih (10 * a + ((c.toNat : Int) - 48)) (fun x hx => hd x (List.mem_cons_of_mem _ hx)) (by omega)
    have e : a * 10 ^ (r.length + 1) = (10 * a) * 10 ^ r.length := by rw [Int.pow_succ, Int.mul_comm (10 ^ r.length) 10, ← Int.mul_assoc, Int.mul_comm a 10]
    simp only [List.length_cons, val]
    rw [e]
    exact Int.le_trans (Int.mul_le_mul_of_nonneg_right (by omega) (by have := pow_pos10 r.length; omega)) h1
theorem var_ok (d : List UInt8) (hd : ∀ c ∈ d, dg c = true) : (numOk d 4 = true ∧ val d 0 ≤ 23) ↔ (numOk d 2 = true ∧ val d 0 ≤ 23) := by
  unfold numOk
  simp only [decide_eq_true_eq]
  constructor
  · rintro ⟨⟨h1, h2, h3⟩, h4⟩
    refine ⟨⟨h1, ?_, h3⟩, h4⟩
    apply Decidable.byContradiction
    intro hc
    cases d with
    | nil => exact h1 rfl
    | cons c r =>
      simp only [List.length_cons] at hc h2 h3
      have hv := digit_val (hd c (List.mem_cons_self ..))
      have h5 : c ≠ 48 := h3.elim (fun h => by simpa using h) (fun h => by omega)
      have h6 : 1 ≤ (c.toNat : Int) - 48 := by
        have : ¬ ((c.toNat : Int) = 48) := fun e => h5 ((u8_eq c 48 (by decide)).mp e)
        omega
      have h7 := val_ge r (10 * 0 + ((c.toNat : Int) - 48)) (fun x hx => hd x (List.mem_cons_of_mem _ hx)) (by omega)
      have h8 : (100 : Int) ≤ 10 ^ r.length := by
        have : (10 : Int) ^ r.length = 10 ^ (r.length - 2) * 100 := by
          rw [show (100 : Int) = 10 ^ 2 by decide, ← Int.pow_add, Nat.sub_add_cancel (by omega)]
        have := pow_pos10 (r.length - 2); omega
      have h9 : 1 * (10 : Int) ^ r.length ≤ (10 * 0 + ((c.toNat : Int) - 48)) * 10 ^ r.length := Int.mul_le_mul_of_nonneg_right (by omega) (by omega)
      simp only [val] at h4
      omega
  · rintro ⟨⟨h1, h2, h3⟩, h4⟩
    exact ⟨⟨h1, by omega, h3⟩, h4⟩
theorem rlex_word (t : ByteArray) (hn : t.size ≤ 2048) (i : Nat) (c : UInt8) (r : List UInt8) (h : t.data.toList.drop i = c :: r) :
    ∃ v, Ev (fun n => quaereref21_word.f n t (i : Int)) v ∧ Told (c :: r) v := by
  obtain ⟨h1, h2, h3⟩ := drop_cons h
  have hl := drop_len h
  have w1 : wrap64 ((i : Int) + 1) = ((i + 1 : Nat) : Int) := by unfold wrap64; omega
  simp only [quaereref21_word.f, if_pos (show (0 : Int) ≤ (i : Int) by omega), if_pos (show (i : Int) < (t.size : Int) by omega), h2, rsmall_eq, rdigit_eq, Option.bind_some, w1, Int.toNat_natCast]
  by_cases q1 : sm c = true
  · simp only [if_pos q1]
    have hr := rword_l0 t hn i (c :: r) i ((c :: r).length + 1) h (by omega) (by omega) (by omega)
    refine ⟨_, Ev.of (fun k => (quaereref21_word.mono_l k _ _ _)) hr, ?_⟩
    by_cases q2 : ((c :: r).takeWhile (cls true)).length ≤ 8
    · refine of_some (by simp only [tok]; rw [if_pos q1, if_pos q2]) ⟨rfl, ?_, ?_⟩
      · rw [extract_list, h, Nat.add_sub_cancel_left]
      · exact decide_eq_true (by omega)
    · exact of_none (by simp only [tok]; rw [if_pos q1, if_neg q2]) (decide_eq_false (by omega))
  simp only [if_neg q1]
  by_cases q2 : c = 88
  · simp only [if_pos (show (c.toNat : Int) = 88 by rw [q2]; rfl)]
    have htw := take_while_le dg r
    have hr := digits_eq t (by omega) r (i + 1) (r.length + 1) h3 (by omega)
    have hx : (t.extract (i + 1) (i + 1 + (r.takeWhile dg).length)).data.toList = r.takeWhile dg := by
      rw [extract_list, h3, Nat.add_sub_cancel_left, take_drop_while]
    have hN : Ev (fun k => quaereref21_Number.f k (t.extract (i + 1) (i + 1 + (r.takeWhile dg).length))) (if numOk (r.takeWhile dg) 4 = true then (val (r.takeWhile dg) 0, true) else (0, false)) := ⟨(r.takeWhile dg).length + 2, fun k hk => rNumber_eq _ _ hx (while_all dg r) k (by omega)⟩
    have ht : (t.extract i (i + 1 + (r.takeWhile dg).length)).data.toList = (c :: r).take ((r.takeWhile dg).length + 1) := by
      rw [extract_list, h, show i + 1 + (r.takeWhile dg).length - i = (r.takeWhile dg).length + 1 by omega]
    have go : ∀ v, Ev (fun _ => if (if numOk (r.takeWhile dg) 4 = true then (val (r.takeWhile dg) 0, true) else (0, false)).2 = true then some ((1 : Int), t.extract i (i + 1 + (r.takeWhile dg).length), decide ((if numOk (r.takeWhile dg) 4 = true then (val (r.takeWhile dg) 0, true) else (0, false)).1 ≤ 23)) else some (1, t.extract i (i + 1 + (r.takeWhile dg).length), false)) v →
        Ev (fun n => (quaereref21_digits.f n t ((i + 1 : Nat) : Int)).bind fun t123 => (if 0 ≤ ((i + 1 : Nat) : Int) then (if ((i + 1 : Nat) : Int) ≤ t123 then (if t123 ≤ (t.size : Int) then ((quaereref21_Number.f n (t.extract (i + 1) (t123 : Int).toNat)).bind fun bt124 => (if (i : Int) ≤ t123 then (if bt124.2 = true then (some (1, t.extract i (t123 : Int).toNat, decide (bt124.1 ≤ 23))) else (some (1, t.extract i (t123 : Int).toNat, false))) else (none))) else (none)) else (none)) else (none))) v := by
      intro v hv
      refine Ev.bind (a := ((i + 1 + (r.takeWhile dg).length : Nat) : Int)) (Ev.of (fun k => quaereref21_digits.mono_l k _ _) hr) ?_
      simp only [if_pos (show (0 : Int) ≤ ((i + 1 : Nat) : Int) by omega), if_pos (show ((i + 1 : Nat) : Int) ≤ ((i + 1 + (r.takeWhile dg).length : Nat) : Int) by omega), if_pos (show ((i + 1 + (r.takeWhile dg).length : Nat) : Int) ≤ (t.size : Int) by simp only [List.length_cons] at hl; omega), if_pos (show (i : Int) ≤ ((i + 1 + (r.takeWhile dg).length : Nat) : Int) by omega), Int.toNat_natCast]
      exact Ev.bind hN hv
    by_cases q3 : numOk (r.takeWhile dg) 4 = true
    · rw [if_pos q3] at go
      simp only [if_true] at go
      refine ⟨_, go _ (Ev.now _), ?_⟩
      by_cases q4 : val (r.takeWhile dg) 0 ≤ 23
      · have q5 := (var_ok _ (while_all dg r)).mp ⟨q3, q4⟩
        exact of_some (by simp only [tok]; rw [if_neg q1, if_pos q2, if_pos q5]) ⟨rfl, ht, decide_eq_true q4⟩
      · exact of_none (by simp only [tok]; rw [if_neg q1, if_pos q2, if_neg (fun z => q4 z.2)]) (decide_eq_false q4)
    · rw [if_neg q3] at go
      simp only [Bool.false_eq_true, if_false] at go
      refine ⟨_, go _ (Ev.now _), ?_⟩
      exact of_none (by simp only [tok]; rw [if_neg q1, if_pos q2, if_neg (fun z => q3 ((var_ok _ (while_all dg r)).mpr z).1)]) rfl
  simp only [if_neg (show ¬ ((c.toNat : Int) = 88) from fun e => q2 ((u8_eq c 88 (by decide)).mp e))]
  by_cases q3 : dg c = true
  · simp only [if_pos q3]
    have htw := take_while_le dg (c :: r)
    have hr := digits_eq t (by omega) (c :: r) i ((c :: r).length + 1) h (by omega)
    have hx : (t.extract i (i + ((c :: r).takeWhile dg).length)).data.toList = (c :: r).takeWhile dg := by
      rw [extract_list, h, Nat.add_sub_cancel_left, take_drop_while]
    have hN : Ev (fun k => quaereref21_Number.f k (t.extract i (i + ((c :: r).takeWhile dg).length))) (if numOk ((c :: r).takeWhile dg) 4 = true then (val ((c :: r).takeWhile dg) 0, true) else (0, false)) := ⟨((c :: r).takeWhile dg).length + 2, fun k hk => rNumber_eq _ _ hx (while_all dg _) k (by omega)⟩
    refine ⟨(2, t.extract i (i + ((c :: r).takeWhile dg).length), numOk ((c :: r).takeWhile dg) 4), Ev.bind (a := ((i + ((c :: r).takeWhile dg).length : Nat) : Int)) (Ev.of (fun k => quaereref21_digits.mono_l k _ _) hr) ?_, ?_⟩
    · simp only [if_pos (show (i : Int) ≤ ((i + ((c :: r).takeWhile dg).length : Nat) : Int) by omega), if_pos (show ((i + ((c :: r).takeWhile dg).length : Nat) : Int) ≤ (t.size : Int) by omega), Int.toNat_natCast]
      refine Ev.bind hN ?_
      by_cases q4 : numOk ((c :: r).takeWhile dg) 4 = true
      · simp only [q4, if_true]; exact Ev.now _
      · simp only [q4, Bool.false_eq_true, if_false]; exact Ev.now _
    · by_cases q4 : numOk ((c :: r).takeWhile dg) 4 = true
      · exact of_some (by simp only [tok]; rw [if_neg q1, if_neg q2, if_pos q3, if_pos q4]) ⟨rfl, by rw [hx, take_drop_while], q4⟩
      · exact of_none (by simp only [tok]; rw [if_neg q1, if_neg q2, if_pos q3, if_neg q4]) (by simpa using q4)
  simp only [if_neg q3]
  by_cases q4 : c = 45
  · simp only [if_pos (show (c.toNat : Int) = 45 by rw [q4]; rfl)]
    have nm : ¬ (c ∈ marks) := by rw [q4]; decide
    cases r with
    | nil =>
      simp only [List.length_cons, List.length_nil] at hl
      simp only [if_neg (show ¬ (((i + 1 : Nat) : Int) < (t.size : Int)) by omega)]
      exact ⟨_, Ev.now _, of_none (by simp only [tok]; rw [if_neg q1, if_neg q2, if_neg q3, if_neg (by simp), if_neg nm]) rfl⟩
    | cons e s =>
      obtain ⟨g1, g2, g3⟩ := drop_cons h3
      simp only [if_pos (show (((i + 1 : Nat) : Int) < (t.size : Int)) by omega), if_pos (show (0 : Int) ≤ ((i + 1 : Nat) : Int) by omega), g2]
      refine ⟨_, Ev.now _, ?_⟩
      by_cases q5 : e = 62
      · refine of_some (by simp only [tok]; rw [if_neg q1, if_neg q2, if_neg q3, if_pos ⟨q4, by rw [q5]; rfl⟩]) ⟨rfl, ?_, ?_⟩
        · rw [q4, q5]; rfl
        · rw [q5]; rfl
      · exact of_none (by simp only [tok]; rw [if_neg q1, if_neg q2, if_neg q3, if_neg (by simp [q5]), if_neg nm]) (beq_eq_false_iff_ne.mpr (fun z => q5 ((u8_eq e 62 (by decide)).mp z)))
  have q45 : ¬ (c = 45 ∧ r.head? = some 62) := fun z => q4 z.1
  simp only [if_neg (show ¬ ((c.toNat : Int) = 45) from fun e => q4 ((u8_eq c 45 (by decide)).mp e)), if_pos (show (i : Int) ≤ ((i + 1 : Nat) : Int) by omega), if_pos (show ((i + 1 : Nat) : Int) ≤ (t.size : Int) by omega)]
  have hx1 : (t.extract i (i + 1)).data.toList = (c :: r).take 1 := by
    rw [extract_list, h, Nat.add_sub_cancel_left]
  have yes : c ∈ marks → Told (c :: r) ((3 : Int), t.extract i (i + 1), true) := fun z => of_some (by simp only [tok]; rw [if_neg q1, if_neg q2, if_neg q3, if_neg q45, if_pos z]) ⟨rfl, hx1, rfl⟩
  have step : ∀ (n : Nat) (hn : n < 256) (g : Nat → Option (Int × ByteArray × Bool)), UInt8.ofNat n ∈ marks → (c ≠ UInt8.ofNat n → ∃ v, Ev g v ∧ Told (c :: r) v) →
      ∃ v, Ev (fun k => if (c.toNat : Int) = (n : Int) then some ((3 : Int), t.extract i (i + 1), true) else g k) v ∧ Told (c :: r) v := by
    intro n hn g hm hg
    by_cases q : c = UInt8.ofNat n
    · simp only [if_pos ((u8_eq c n hn).mpr q)]
      exact ⟨_, Ev.now _, yes (by rw [q]; exact hm)⟩
    · simp only [if_neg (fun e => q ((u8_eq c n hn).mp e))]
      exact hg q
  refine step 40 (by decide) _ (by decide) fun p1 => ?_
  refine step 41 (by decide) _ (by decide) fun p2 => ?_
  refine step 44 (by decide) _ (by decide) fun p3 => ?_
  refine step 61 (by decide) _ (by decide) fun p4 => ?_
  refine step 126 (by decide) _ (by decide) fun p5 => ?_
  refine step 38 (by decide) _ (by decide) fun p6 => ?_
  refine step 124 (by decide) _ (by decide) fun p7 => ?_
  refine ⟨_, Ev.now _, ?_⟩
  by_cases p8 : c = 58
  · rw [show (((c.toNat : Int)) == 58) = true by rw [p8]; rfl]
    exact yes (by rw [p8]; decide)
  · rw [show (((c.toNat : Int)) == 58) = false from beq_eq_false_iff_ne.mpr (fun e => p8 ((u8_eq c 58 (by decide)).mp e))]
    refine of_none ?_ rfl
    simp only [tok]
    rw [if_neg q1, if_neg q2, if_neg q3, if_neg q45, if_neg]
    intro hm
    simp only [marks, List.mem_cons, List.not_mem_nil, or_false] at hm
    rcases hm with e | e | e | e | e | e | e | e
    · exact p1 e
    · exact p2 e
    · exact p3 e
    · exact p4 e
    · exact p5 e
    · exact p6 e
    · exact p7 e
    · exact p8 e
theorem rlex_l0 (t : ByteArray) (hn : t.size ≤ 2048) : ∀ (n : Nat) (l : List UInt8) (i : Nat) (acc : List S33), l.length = n → t.data.toList.drop i = l → i ≤ t.size → acc.length ≤ i →
    Ev (fun k => quaereref21_Lex.l0 k t acc (i : Int)) (res acc (lexL l)) := by
  intro n
  induction n using Nat.strongRecOn with
  | _ n ih =>
    intro l i acc hln h hi ha
    cases l with
    | nil =>
      have := drop_nil h
      rw [lexL_nil]
      refine Ev.step (fun k => by rw [quaereref21_Lex.l0]) ?_
      simp only [if_neg (show ¬ ((i : Int) < (t.size : Int)) by omega)]
      have e : res acc (some []) = (acc, 0) := by simp [res]
      rw [e]; exact Ev.now _
    | cons c r =>
      obtain ⟨h1, h2, h3⟩ := drop_cons h
      refine Ev.step (fun k => by rw [quaereref21_Lex.l0]) ?_
      simp only [if_pos (show (i : Int) < (t.size : Int) by omega), if_pos (show (0 : Int) ≤ (i : Int) by omega), h2]
      by_cases q : c = 32
      · subst q
        simp only [if_pos (show ((32 : UInt8).toNat : Int) = 32 from rfl)]
        rw [lexL_blank, show wrap64 ((i : Int) + 1) = ((i + 1 : Nat) : Int) by unfold wrap64; omega]
        exact ih r.length (by rw [← hln]; simp) r (i + 1) acc rfl h3 (by omega) (by omega)
      · simp only [if_neg (show ¬ ((c.toNat : Int) = 32) from fun e => q ((u8_eq c 32 (by decide)).mp e))]
        obtain ⟨v, hv, ht⟩ := rlex_word t hn i c r h
        refine Ev.bind hv ?_
        unfold Told at ht
        cases e : tok (c :: r) with
        | none =>
          rw [e] at ht
          simp only at ht
          simp only [ht, Bool.false_eq_true, if_false]
          rw [lexL_none q e]; exact Ev.now _
        | some km =>
          obtain ⟨k, m⟩ := km
          rw [e] at ht
          simp only at ht
          have hm := tok_len e
          have hl := drop_len h
          obtain ⟨t1, t2, t3⟩ := ht
          have es : v.2.1.size = m := by rw [size_eq, t2, List.length_take]; omega
          have ew : (⟨v.1, v.2.1⟩ : S33) = mkW (k, (c :: r).take m) := by
            unfold mkW; rw [t1]; congr 1; exact ext_list t2
          simp only [t3, if_true, if_pos (show acc.length < 5864062014805 by omega), ew, es]
          rw [show wrap64 ((i : Int) + (m : Int)) = ((i + m : Nat) : Int) by unfold wrap64; omega]
          have := ih ((c :: r).drop m).length (by rw [← hln, List.length_drop]; omega) ((c :: r).drop m) (i + m) (acc ++ [mkW (k, (c :: r).take m)]) rfl (drop_more h) (by omega) (by simp; omega)
          rw [lexL_some q e]
          have e2 : res (acc ++ [mkW (k, (c :: r).take m)]) (lexL ((c :: r).drop m)) = res acc ((lexL ((c :: r).drop m)).map fun ws => (k, (c :: r).take m) :: ws) := by
            cases lexL ((c :: r).drop m) with
            | none => rfl
            | some ws => simp [res]
          rw [← e2]; exact this
theorem rlex_eq (t : ByteArray) : Ev (fun k => quaereref21_Lex.f k t) (told t) := by
  unfold told
  by_cases hn : t.size > 2048
  · simp only [quaereref21_Lex.f, if_pos hn, if_pos (show (t.size : Int) > 2048 by omega)]
    exact Ev.now _
  · simp only [quaereref21_Lex.f, if_neg hn, if_neg (show ¬ ((t.size : Int) > 2048) by omega)]
    exact rlex_l0 t (by omega) _ t.data.toList 0 [] rfl rfl (by omega) (by simp)
end Go.Proofs.Ytajdnphpjlfajaa.LexPlain
