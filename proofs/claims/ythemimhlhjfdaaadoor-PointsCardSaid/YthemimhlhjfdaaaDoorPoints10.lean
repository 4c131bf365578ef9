/- Words for the use of the evaluator: rows of whole numbers, wraps. No condition. -/
import Derived.Below
import Derived.IntWalk
import Derived.Test.YthemimhlhjfdaaaDoorPoints0
import Derived.Test.YthemimhlhjfdaaaDoorPoints1
import Derived.Test.YthemimhlhjfdaaaDoorPoints2
import Derived.Test.YthemimhlhjfdaaaDoorPoints3
import Derived.Test.YthemimhlhjfdaaaDoorPoints4
import Derived.Test.YthemimhlhjfdaaaDoorPoints5
import Derived.Test.YthemimhlhjfdaaaDoorPoints6
import Derived.Test.YthemimhlhjfdaaaDoorPoints7
import Derived.Test.YthemimhlhjfdaaaDoorPoints8
import Derived.Test.YthemimhlhjfdaaaDoorPoints9
set_option linter.unusedVariables false
set_option linter.unusedSimpArgs false
namespace Go.Ab
open Go Go.RowKit

def ints (l : List Int) : List D := l.map (D.int .i64)
def gi (l : List Int) (i : Nat) : Int := l.getD i 0
theorem ints_len (l : List Int) : (ints l).length = l.length := by simp [ints]
theorem ints_at {l : List Int} {i : Nat} (h : i < l.length) : (ints l)[i]? = some (.int .i64 (gi l i)) := by
  simp [ints, gi, h]
theorem ints_int {l : List Int} {i : Nat} (h : i < l.length) : (ints l)[Int.toNat (i : Int)]? = some (.int .i64 (gi l i)) := by
  rw [Int.toNat_natCast]; exact ints_at h
theorem wr (n : Int) (h0 : -9223372036854775808 ≤ n) (h1 : n ≤ 9223372036854775807) : IntKind.wrap .i64 n = n := by
  rw [IntKind.wrap_i64 n]; omega
theorem ints_append (l m : List Int) : ints (l ++ m) = ints l ++ ints m := by simp [ints]
end Go.Ab

/- From what the evaluator tells to the machine's call: a law. No condition. -/
set_option linter.unusedVariables false
set_option linter.unusedSimpArgs false
namespace Go.Ab
open Go Go.RowKit

/-- All that a world holds is taken as never written again. -/
def Hw (w : World) : Fz := fun k => w.heap[k]?
theorem Hw.sub (w : World) : (Hw w).sub w := fun _ _ h => h
theorem Hw.cell {w : World} {a : Addr} {v : Value} (h : w.cell? a = some v) : cellH (Hw w) a = some v := by
  unfold World.cell? at h
  unfold cellH Hw
  exact h
theorem law_run {P : Program} {F : Fx} (hF : FxOk P F) {f : FuncId} {args outs : List IV} (h : W F f args = some (.d (.bool true), outs)) {w : World} {vs : List Value} (hg : GlobOk (Hw w) F.G) (hr : IV.RepL (Hw w) w args vs []) :
    Calls P f vs.toArray w fun e w' => e = .returned (.bool true) ∧ Below w.heap.size w w' := by
  refine ((W_sound hF _ _ _ _ h).2 (Hw w) w vs [] hg (Hw.sub w) hr (by simp) (by simp)).mono ?_
  rintro e w' ⟨v, H', b2, b3, rfl, _, _, h3, _, _, h6, _⟩
  unfold IV.Rep at h6
  have hv : v = .bool true := by
    have := h6.1
    simp only [D.RepV] at this
    unfold D.Rep at this
    simpa using this
  subst hv
  exact ⟨rfl, h3.os, h3.tape, h3.output, h3.size, fun k hk => h3.block k hk (by simp)⟩
theorem repL_ints (H : Fz) (l : List Int) : D.RepL H (ints l) (l.map (.int .i64)) := by
  induction l with
  | nil => unfold ints; simp only [List.map_nil]; unfold D.RepL; rfl
  | cons x l ih =>
    unfold ints at *
    simp only [List.map_cons]
    unfold D.RepL
    exact ⟨[.int .i64 x], _, rfl, by unfold D.Rep; rfl, ih⟩
/-- A row of whole numbers that came in. -/
theorem row_rep {w : World} {a : Option Addr} {len cap : Nat} {zs : List Int}
    (h : (a = none ∧ len = 0 ∧ cap = 0 ∧ zs = []) ∨ ∃ x, a = some x ∧ len ≤ cap ∧ cap ≤ maxLen ∧ zs.length = cap ∧ (∀ i, i < zs.length → w.cell? (x.add i) = some (.int .i64 (zs.getD i 0)))) :
    IV.Rep (Hw w) w (.d (.sl 1 a.isNone (ints (zs.take len)) [])) (.slice a len cap) [] := by
  unfold IV.Rep
  refine ⟨?_, rfl⟩
  simp only [D.RepV]
  unfold D.Rep
  rcases h with ⟨rfl, rfl, rfl, rfl⟩ | ⟨x, rfl, h1, h2, h3, h4⟩
  · exact .inl ⟨rfl, by simp [ints], rfl, rfl⟩
  · refine .inr ⟨rfl, x, cap, (zs.take len).map (.int .i64), [], ?_, ?_, h2, ?_, repL_ints _ _, by unfold D.RepL; rfl, ?_, by simp⟩
    · rw [ints_len, List.length_take, Nat.min_eq_left (by omega)]
    · rw [ints_len, List.length_take]; simp; omega
    · intro j u hj
      rw [List.append_nil] at hj
      obtain ⟨hlt, hu⟩ := List.getElem?_eq_some_iff.1 hj
      simp at hlt
      have h5 := Hw.cell (h4 j (by omega))
      rw [h5, ← hu]
      simp [List.getD_eq_getElem?_getD, show j < zs.length by omega]
    · intro y hy
      obtain ⟨z, _, rfl⟩ := List.mem_map.1 hy
      rfl
theorem int_rep {w : World} {k : IntKind} {n : Int} : IV.Rep (Hw w) w (.d (.int k n)) (.int k n) [] := by
  unfold IV.Rep; refine ⟨?_, rfl⟩; simp only [D.RepV]; unfold D.Rep; rfl
theorem pair_rep {w : World} {k k' : IntKind} {a b : Int} : IV.Rep (Hw w) w (.d (.agg [.int k a, .int k' b])) (.agg #[.int k a, .int k' b]) [] := by
  unfold IV.Rep
  refine ⟨?_, rfl⟩
  simp only [D.RepV]
  refine ⟨_, rfl, ?_⟩
  unfold D.Rep
  refine ⟨?_, by simp [D.isAgg]⟩
  unfold D.RepL
  refine ⟨[.int k a], [.int k' b], rfl, by unfold D.Rep; rfl, ?_⟩
  unfold D.RepL
  exact ⟨[.int k' b], [], rfl, by unfold D.Rep; rfl, by unfold D.RepL; rfl⟩
theorem repL_nil {H : Fz} {w : World} : IV.RepL H w [] [] [] := by unfold IV.RepL; exact ⟨rfl, rfl⟩
theorem repL_cons {H : Fz} {w : World} {x : IV} {v : Value} {xs : List IV} {vs : List Value} (h : IV.Rep H w x v []) (h2 : IV.RepL H w xs vs []) : IV.RepL H w (x :: xs) (v :: vs) [] := by
  unfold IV.RepL; exact ⟨v, vs, [], [], rfl, rfl, h, h2⟩
theorem globOk_nil (H : Fz) : GlobOk H [] := fun g cs h => by simp [assoc] at h
end Go.Ab

/- Rules for loops and labels, by what their turns do. No condition. -/
set_option linter.unusedVariables false
set_option linter.unusedSimpArgs false
namespace Go.Ab
open Go
/-- The first places of a row, with the room behind it. -/
def tkX (n : Nat) (xs ext : List D) : List D := match ext with | [] => xs.take n | _ => (xs ++ ext).take n
theorem tkX_eq (n : Nat) (xs ext : List D) (h : ext ≠ [] ∨ n ≤ xs.length) : tkX n xs ext = (xs ++ ext).take n := by
  unfold tkX
  cases ext with
  | nil => rw [List.append_nil]
  | cons x l => rfl

@[simp] theorem condW_d {p : Prop} [Decidable p] {x y : Prop} : condW (decide p) x y = (if p then x else y) := by
  by_cases h : p
  · rw [decide_eq_true h, if_pos h]; rfl
  · rw [decide_eq_false h, if_neg h]; rfl
@[simp] theorem condW_b {b : Bool} {x y : Prop} : condW b x y = (if b = true then x else y) := by
  cases b <;> rfl
@[simp] theorem condW_tt {x y : Prop} : condW true x y = x := rfl
@[simp] theorem condW_ff {x y : Prop} : condW false x y = y := rfl
theorem condW_n {b : Bool} {x y : Prop} : condW (!b) x y = condW b y x := by
  cases b <;> rfl

section
variable {F : Fx} {d : FnD} {lk p : List Nat}
/-- A loop, by what its turns do: `st` how it stands, `I` what holds, `post` what comes of it. -/
theorem loop_rule {α : Type} (st : α → Sl) (I : α → Prop) (μ : α → Nat) (post : α → Out → Prop)
    (step : ∀ x, I x → (∃ x', evP F (W F) (JW F d lk) d lk p (st x) = some (.norm (st x')) ∧ I x' ∧ μ x' < μ x ∧ ∀ o, post x' o → post x o) ∨ ∃ o, evP F (W F) (JW F d lk) d lk p (st x) = some o ∧ o.isNorm = false ∧ post x o) :
    ∀ x, I x → ∃ o, evL (JW F d lk) d p (st x) = some o ∧ post x o := by
  have key : ∀ n x, μ x < n → I x → ∃ o, evL (JW F d lk) d p (st x) = some o ∧ post x o := by
    intro n
    induction n with
    | zero => intro x h; omega
    | succ n ih =>
      intro x hn hi
      rcases step x hi with ⟨x', h1, h2, h3, h4⟩ | ⟨o, h1, h2, h3⟩
      · obtain ⟨o, h5, h6⟩ := ih x' (by omega) h2
        exact ⟨o, evL_go h1 h5, h4 o h6⟩
      · exact ⟨o, evL_end h1 h2, h3⟩
  exact fun x hi => key (μ x + 1) x (Nat.lt_succ_self _) hi
/-- Labels likewise. -/
theorem label_rule {α : Type} (lb : α → Nat) (st : α → Sl) (I : α → Prop) (μ : α → Nat) (post : α → Out → Prop) (hl : ∀ x, I x → (findLabel (Code.piece p d.body) (lb x)).isSome = true)
    (step : ∀ x, I x → (∃ x', evR F (W F) (JW F d lk) d lk p (lb x) (st x) = some (.goto (lb x') (st x')) ∧ I x' ∧ μ x' < μ x ∧ ∀ o, post x' o → post x o) ∨ ∃ o, evR F (W F) (JW F d lk) d lk p (lb x) (st x) = some o ∧ o.isGoto = false ∧ post x o) :
    ∀ x, I x → ∃ o, evG (JW F d lk) d p (lb x) (st x) = some o ∧ post x o := by
  have key : ∀ n x, μ x < n → I x → ∃ o, evG (JW F d lk) d p (lb x) (st x) = some o ∧ post x o := by
    intro n
    induction n with
    | zero => intro x h; omega
    | succ n ih =>
      intro x hn hi
      rcases step x hi with ⟨x', h1, h2, h3, h4⟩ | ⟨o, h1, h2, h3⟩
      · obtain ⟨o, h5, h6⟩ := ih x' (by omega) h2
        exact ⟨o, evG_go (hl x' h2) h1 h5, h4 o h6⟩
      · exact ⟨o, evG_end h1 h2, h3⟩
  exact fun x hi => key (μ x + 1) x (Nat.lt_succ_self _) hi
/-- All of so many. -/
theorem loop_all {n id : Nat} {st : Nat → Sl} {q : Nat → Bool} {rt : Sl} {e : Sl}
    (hgo : ∀ i, i < n → q i = true → evP F (W F) (JW F d lk) d lk p (st i) = some (.norm (st (i + 1))))
    (hno : ∀ i, i < n → q i = false → evP F (W F) (JW F d lk) d lk p (st i) = some (.ret rt))
    (hend : evP F (W F) (JW F d lk) d lk p (st n) = some (.exit id e)) :
    ∀ i, i ≤ n → ((∀ j, i ≤ j → j < n → q j = true) ∧ evL (JW F d lk) d p (st i) = some (.exit id e)) ∨ ((∃ j, i ≤ j ∧ j < n ∧ q j = false) ∧ evL (JW F d lk) d p (st i) = some (.ret rt)) := by
  intro i hi
  obtain ⟨k, rfl⟩ : ∃ k, n = i + k := ⟨n - i, by omega⟩
  induction k generalizing i with
  | zero => exact .inl ⟨fun j h1 h2 => by omega, evL_end hend rfl⟩
  | succ k ih =>
    cases hq : q i with
    | false => exact .inr ⟨⟨i, Nat.le_refl _, by omega, hq⟩, evL_end (hno i (by omega) hq) rfl⟩
    | true =>
      have h1 := hgo i (by omega) hq
      have e1 : i + (k + 1) = (i + 1) + k := by omega
      rw [e1] at hgo hno hend ⊢
      rcases ih (i + 1) hgo hno hend (by omega) with ⟨h2, h3⟩ | ⟨⟨j, h2, h4, h5⟩, h3⟩
      · refine .inl ⟨fun j hj1 hj2 => ?_, evL_go h1 h3⟩
        by_cases hji : j = i
        · subst hji; exact hq
        · exact h2 j (by omega) hj2
      · exact .inr ⟨⟨j, by omega, h4, h5⟩, evL_go h1 h3⟩
/-- The first of so many. -/
theorem loop_find {n id : Nat} {st : Nat → Sl} {q : Nat → Bool} {rt : Nat → Sl} {e : Sl}
    (hgo : ∀ i, i < n → q i = false → evP F (W F) (JW F d lk) d lk p (st i) = some (.norm (st (i + 1))))
    (hno : ∀ i, i < n → q i = true → evP F (W F) (JW F d lk) d lk p (st i) = some (.ret (rt i)))
    (hend : evP F (W F) (JW F d lk) d lk p (st n) = some (.exit id e)) :
    ∀ i, i ≤ n → ((∀ j, i ≤ j → j < n → q j = false) ∧ evL (JW F d lk) d p (st i) = some (.exit id e)) ∨ (∃ j, i ≤ j ∧ j < n ∧ q j = true ∧ (∀ k, i ≤ k → k < j → q k = false) ∧ evL (JW F d lk) d p (st i) = some (.ret (rt j))) := by
  intro i hi
  obtain ⟨k, rfl⟩ : ∃ k, n = i + k := ⟨n - i, by omega⟩
  induction k generalizing i with
  | zero => exact .inl ⟨fun j h1 h2 => by omega, evL_end hend rfl⟩
  | succ k ih =>
    cases hq : q i with
    | true => exact .inr ⟨i, Nat.le_refl _, by omega, hq, fun k h1 h2 => by omega, evL_end (hno i (by omega) hq) rfl⟩
    | false =>
      have h1 := hgo i (by omega) hq
      have e1 : i + (k + 1) = (i + 1) + k := by omega
      rw [e1] at hgo hno hend ⊢
      rcases ih (i + 1) hgo hno hend (by omega) with ⟨h2, h3⟩ | ⟨j, h2, h4, h5, h6, h3⟩
      · refine .inl ⟨fun j hj1 hj2 => ?_, evL_go h1 h3⟩
        by_cases hji : j = i
        · subst hji; exact hq
        · exact h2 j (by omega) hj2
      · refine .inr ⟨j, by omega, h4, h5, fun k h7 h8 => ?_, evL_go h1 h3⟩
        by_cases hki : k = i
        · subst hki; exact hq
        · exact h6 k (by omega) h8
/-- One behind the other. -/
def upTo {α : Type} (f : Nat → α → α) : Nat → Nat → α → α
  | 0, _, a => a
  | k + 1, i, a => upTo f k (i + 1) (f i a)
theorem loop_fold {α : Type} {n id : Nat} {st : Nat → α → Sl} {f : Nat → α → α} {I : Nat → α → Prop} {e : α → Sl}
    (hgo : ∀ i a, i < n → I i a → evP F (W F) (JW F d lk) d lk p (st i a) = some (.norm (st (i + 1) (f i a))) ∧ I (i + 1) (f i a))
    (hend : ∀ a, I n a → evP F (W F) (JW F d lk) d lk p (st n a) = some (.exit id (e a))) :
    ∀ i a, i ≤ n → I i a → evL (JW F d lk) d p (st i a) = some (.exit id (e (upTo f (n - i) i a))) ∧ I n (upTo f (n - i) i a) := by
  intro i a hi
  obtain ⟨k, rfl⟩ : ∃ k, n = i + k := ⟨n - i, by omega⟩
  induction k generalizing i a with
  | zero =>
    intro hI
    rw [Nat.add_zero, Nat.sub_self]
    exact ⟨evL_end (hend a hI) rfl, hI⟩
  | succ k ih =>
    intro hI
    obtain ⟨h1, h2⟩ := hgo i a (by omega) hI
    have e1 : i + (k + 1) = (i + 1) + k := by omega
    rw [e1] at hgo hend ⊢
    have h3 := ih (i + 1) (f i a) hgo hend (by omega) h2
    rw [show i + 1 + k - (i + 1) = k by omega] at h3
    rw [show i + 1 + k - i = k + 1 by omega]
    exact ⟨evL_go h1 h3.1, h3.2⟩
/-! The same, for the block of a loop. -/
abbrev lpE (id : Nat) : Out → Out := blkO id
theorem blk_rule {α : Type} {p0 : List Nat} (id : Nat) (hc : Code.piece p0 d.body = .block id (.loop (Code.piece p d.body))) (st : α → Sl) (I : α → Prop) (μ : α → Nat) (post : α → Out → Prop)
    (step : ∀ x, I x → (∃ x', evP F (W F) (JW F d lk) d lk p (st x) = some (.norm (st x')) ∧ I x' ∧ μ x' < μ x ∧ ∀ o, post x' o → post x o) ∨ ∃ o, evP F (W F) (JW F d lk) d lk p (st x) = some o ∧ o.isNorm = false ∧ post x (blkO id o)) :
    ∀ x, I x → ∃ o, evP F (W F) (JW F d lk) d lk p0 (st x) = some o ∧ post x o := by
  intro x hx
  obtain ⟨o, h1, h2⟩ := loop_rule st I μ (fun x o => post x (blkO id o)) (fun x hi => by
    rcases step x hi with ⟨x', h1, h2, h3, h4⟩ | ⟨o, h1, h2, h3⟩
    · exact .inl ⟨x', h1, h2, h3, fun o h => h4 _ h⟩
    · exact .inr ⟨o, h1, h2, h3⟩) x hx
  exact ⟨_, evL_at hc h1 rfl, h2⟩
theorem blk_all {p0 : List Nat} {id : Nat} (hc : Code.piece p0 d.body = .block id (.loop (Code.piece p d.body))) {n : Nat} {st : Nat → Sl} {q : Nat → Bool} {rt : Sl} {e : Sl}
    (hgo : ∀ i, i < n → q i = true → evP F (W F) (JW F d lk) d lk p (st i) = some (.norm (st (i + 1))))
    (hno : ∀ i, i < n → q i = false → evP F (W F) (JW F d lk) d lk p (st i) = some (.ret rt))
    (hend : evP F (W F) (JW F d lk) d lk p (st n) = some (.exit id e)) (i : Nat) (hi : i ≤ n) :
    ((∀ j, i ≤ j → j < n → q j = true) ∧ evP F (W F) (JW F d lk) d lk p0 (st i) = some (.norm e)) ∨ ((∃ j, i ≤ j ∧ j < n ∧ q j = false) ∧ evP F (W F) (JW F d lk) d lk p0 (st i) = some (.ret rt)) := by
  rcases loop_all hgo hno hend i hi with ⟨h1, h2⟩ | ⟨h1, h2⟩
  · exact .inl ⟨h1, evL_at hc h2 (by simp [blkO])⟩
  · exact .inr ⟨h1, evL_at hc h2 rfl⟩
theorem blk_find {p0 : List Nat} {id : Nat} (hc : Code.piece p0 d.body = .block id (.loop (Code.piece p d.body))) {n : Nat} {st : Nat → Sl} {q : Nat → Bool} {rt : Nat → Sl} {e : Sl}
    (hgo : ∀ i, i < n → q i = false → evP F (W F) (JW F d lk) d lk p (st i) = some (.norm (st (i + 1))))
    (hno : ∀ i, i < n → q i = true → evP F (W F) (JW F d lk) d lk p (st i) = some (.ret (rt i)))
    (hend : evP F (W F) (JW F d lk) d lk p (st n) = some (.exit id e)) (i : Nat) (hi : i ≤ n) :
    ((∀ j, i ≤ j → j < n → q j = false) ∧ evP F (W F) (JW F d lk) d lk p0 (st i) = some (.norm e)) ∨ (∃ j, i ≤ j ∧ j < n ∧ q j = true ∧ (∀ k, i ≤ k → k < j → q k = false) ∧ evP F (W F) (JW F d lk) d lk p0 (st i) = some (.ret (rt j))) := by
  rcases loop_find hgo hno hend i hi with ⟨h1, h2⟩ | ⟨j, h1, h2, h3, h4, h5⟩
  · exact .inl ⟨h1, evL_at hc h2 (by simp [blkO])⟩
  · exact .inr ⟨j, h1, h2, h3, h4, evL_at hc h5 rfl⟩
theorem blk_fold {p0 : List Nat} {id : Nat} (hc : Code.piece p0 d.body = .block id (.loop (Code.piece p d.body))) {α : Type} {n : Nat} {st : Nat → α → Sl} {f : Nat → α → α} {I : Nat → α → Prop} {e : α → Sl}
    (hgo : ∀ i a, i < n → I i a → evP F (W F) (JW F d lk) d lk p (st i a) = some (.norm (st (i + 1) (f i a))) ∧ I (i + 1) (f i a))
    (hend : ∀ a, I n a → evP F (W F) (JW F d lk) d lk p (st n a) = some (.exit id (e a))) (i : Nat) (a : α) (hi : i ≤ n) (hI : I i a) :
    evP F (W F) (JW F d lk) d lk p0 (st i a) = some (.norm (e (upTo f (n - i) i a))) ∧ I n (upTo f (n - i) i a) := by
  have h := loop_fold hgo hend i a hi hI
  exact ⟨evL_at hc h.1 (by simp [blkO]), h.2⟩
/-! What a loop makes of how it stands, as a function. -/
def Turn (F : Fx) (d : FnD) (lk p : List Nat) (id : Nat) {α : Type} (st : α → Sl) (I : α → Prop) (μ : α → Nat) (res : α → Out) (x : α) : Prop :=
  (∃ x', evP F (W F) (JW F d lk) d lk p (st x) = some (.norm (st x')) ∧ I x' ∧ μ x' < μ x ∧ res x' = res x) ∨ ∃ o, evP F (W F) (JW F d lk) d lk p (st x) = some o ∧ o.isNorm = false ∧ blkO id o = res x
theorem Turn.go {id : Nat} {α : Type} {st : α → Sl} {I : α → Prop} {μ : α → Nat} {res : α → Out} {x : α} (x' : α) (h : evP F (W F) (JW F d lk) d lk p (st x) = some (.norm (st x'))) (hI : I x') (hm : μ x' < μ x) (hr : res x' = res x) : Turn F d lk p id st I μ res x := .inl ⟨x', h, hI, hm, hr⟩
theorem Turn.stop {id : Nat} {α : Type} {st : α → Sl} {I : α → Prop} {μ : α → Nat} {res : α → Out} {x : α} (o : Out) (h : evP F (W F) (JW F d lk) d lk p (st x) = some o) (hn : o.isNorm = false) (hr : blkO id o = res x) : Turn F d lk p id st I μ res x := .inr ⟨o, h, hn, hr⟩
theorem blk_fun {α : Type} {p0 : List Nat} {id : Nat} (hc : Code.piece p0 d.body = .block id (.loop (Code.piece p d.body))) {st : α → Sl} {I : α → Prop} {μ : α → Nat} {res : α → Out}
    (step : ∀ x, I x → Turn F d lk p id st I μ res x) (x : α) (hx : I x) : evP F (W F) (JW F d lk) d lk p0 (st x) = some (res x) := by
  obtain ⟨o, h1, rfl⟩ := blk_rule (F := F) (d := d) (lk := lk) (p := p) id hc st I μ (fun x o => o = res x) (fun x hi => by
    rcases step x hi with ⟨x', h1, h2, h3, h4⟩ | ⟨o, h1, h2, h3⟩
    · exact .inl ⟨x', h1, h2, h3, fun o h => h.trans h4⟩
    · exact .inr ⟨o, h1, h2, h3⟩) x hx
  exact h1
def LTurn (F : Fx) (d : FnD) (lk p : List Nat) {α : Type} (lb : α → Nat) (st : α → Sl) (I : α → Prop) (μ : α → Nat) (res : α → Out) (x : α) : Prop :=
  (∃ x', evR F (W F) (JW F d lk) d lk p (lb x) (st x) = some (.goto (lb x') (st x')) ∧ I x' ∧ μ x' < μ x ∧ res x' = res x) ∨ ∃ o, evR F (W F) (JW F d lk) d lk p (lb x) (st x) = some o ∧ o.isGoto = false ∧ o = res x
theorem LTurn.go {α : Type} {lb : α → Nat} {st : α → Sl} {I : α → Prop} {μ : α → Nat} {res : α → Out} {x : α} (x' : α) (h : evR F (W F) (JW F d lk) d lk p (lb x) (st x) = some (.goto (lb x') (st x'))) (hI : I x') (hm : μ x' < μ x) (hr : res x' = res x) : LTurn F d lk p lb st I μ res x := .inl ⟨x', h, hI, hm, hr⟩
theorem LTurn.stop {α : Type} {lb : α → Nat} {st : α → Sl} {I : α → Prop} {μ : α → Nat} {res : α → Out} {x : α} (o : Out) (h : evR F (W F) (JW F d lk) d lk p (lb x) (st x) = some o) (hn : o.isGoto = false) (hr : o = res x) : LTurn F d lk p lb st I μ res x := .inr ⟨o, h, hn, hr⟩
theorem label_fun {α : Type} {lb : α → Nat} {st : α → Sl} {I : α → Prop} {μ : α → Nat} {res : α → Out} (hl : ∀ x, I x → (findLabel (Code.piece p d.body) (lb x)).isSome = true)
    (step : ∀ x, I x → LTurn F d lk p lb st I μ res x) (x : α) (hx : I x) : evG (JW F d lk) d p (lb x) (st x) = some (res x) := by
  obtain ⟨o, h1, rfl⟩ := label_rule (F := F) (d := d) (lk := lk) (p := p) lb st I μ (fun x o => o = res x) hl (fun x hi => by
    rcases step x hi with ⟨x', h1, h2, h3, h4⟩ | ⟨o, h1, h2, h3⟩
    · exact .inl ⟨x', h1, h2, h3, fun o h => h.trans h4⟩
    · exact .inr ⟨o, h1, h2, h3⟩) x hx
  exact h1
end
end Go.Ab

/- Written by a program of this session (wip/tools/AbSym.lean). Not trusted: Lean checks it. -/
set_option maxRecDepth 100000
set_option linter.unusedVariables false
namespace Go.Proofs.YthemimhlhjfdaaaDoor.Ab
open Go Go.Ab Go.Proofs
def k3 : Keep := assoc [] [(0, [2, 3]), (1, [2, 3, 5, 6]), (2, [2, 3, 5, 6, 7, 8]), (3, [2, 3, 5, 6, 7, 8, 9, 10]), (4, [2, 3, 5, 6, 7, 8, 9, 10, 11, 12]), (5, [2, 3, 5, 6, 7, 8, 9, 10, 11, 12, 13, 14]), (6, [2, 3, 5, 6, 7, 8, 9, 10, 11, 12, 13, 14, 15, 16]), (7, [2, 3, 5, 6, 7, 8, 9, 10, 11, 12, 13, 14, 15, 16, 17, 18]), (8, [2, 3, 5, 6, 7, 8, 9, 10, 11, 12, 13, 14, 15, 16, 17, 18, 19, 20]), (9, [2, 3, 5, 6, 7, 8, 9, 10, 11, 12, 13, 14, 15, 16, 17, 18, 19, 20, 21, 22]), (10, [2, 5, 6, 7, 8, 9, 10, 11, 12, 13, 14, 15, 16, 17, 18, 19, 20, 21, 22, 23, 24]), (11, [4])]
noncomputable def d3 : FnD := ⟨146, [.tmp 4], Tryd.f3.body.getD .skip, k3, false, []⟩
def k4 : Keep := assoc [] [(0, [0, 3]), (1, [0, 3, 5]), (2, [0, 3, 5, 6, 7]), (3, [3, 5, 6, 7, 8, 9]), (4, [4])]
noncomputable def d4 : FnD := ⟨41, [.tmp 4], Tryd.f4.body.getD .skip, k4, false, []⟩
def k5 : Keep := assoc [] [(0, [0, 1, 2, 3]), (1, [0, 1, 2, 3, 25]), (2, [8]), (3, [9, 10, 11]), (4, [9, 10, 11, 12, 13]), (5, [9, 10, 11, 12, 13, 14, 15]), (6, [9, 11, 12, 13, 14, 15, 16, 17]), (7, [9, 11, 12, 13, 14, 15, 17, 18, 19]), (8, [12, 13, 14, 15, 17, 18, 19, 20, 21]), (9, [12, 13, 14, 15, 17, 18, 19, 21, 22, 23]), (10, [8])]
noncomputable def d5 : FnD := ⟨109, [.tmp 8], Tryd.f5.body.getD .skip, k5, false, []⟩
def k6 : Keep := assoc [] [(0, [0, 1, 2, 3]), (1, [0, 1, 2, 3, 28]), (2, [8]), (3, [9, 10]), (4, [9, 10, 11, 12]), (5, [9, 10, 11, 12, 13, 14]), (6, [9, 10, 11, 12, 13, 14, 15, 16]), (7, [9, 10, 11, 12, 13, 14, 15, 16, 17, 18]), (8, [9, 10, 11, 12, 13, 14, 15, 16, 18, 19, 20]), (9, [9, 10, 11, 12, 13, 14, 15, 16, 18, 19, 20, 21, 22]), (10, [9, 11, 12, 13, 14, 15, 16, 18, 19, 20, 21, 22, 23, 24]), (11, [9, 12, 14, 15, 16, 18, 19, 20, 21, 22, 23, 24, 25, 26]), (12, [8])]
noncomputable def d6 : FnD := ⟨132, [.tmp 8], Tryd.f6.body.getD .skip, k6, false, []⟩
def k7 : Keep := assoc [] [(0, [0, 1]), (1, [0, 1, 13]), (2, [4]), (3, [5]), (4, [5, 6, 7]), (5, [5, 6, 7, 8, 9]), (6, [5, 6, 7, 8, 9, 10, 11]), (7, [4])]
noncomputable def d7 : FnD := ⟨77, [.tmp 4], Tryd.f7.body.getD .skip, k7, false, []⟩
def k8 : Keep := assoc [] [(0, [0, 3]), (1, [0, 3, 12]), (2, [4]), (3, [0, 3, 5, 6]), (4, [3, 5, 6, 7, 8]), (5, [3, 5, 7, 8, 36]), (6, [4]), (7, [3, 5, 7, 8, 9, 10]), (8, [4])]
noncomputable def d8 : FnD := ⟨84, [.tmp 4], Tryd.f8.body.getD .skip, k8, false, []⟩
def k9 : Keep := assoc [] [(0, [2, 3, 4]), (1, [4, 5])]
noncomputable def d9 : FnD := ⟨16, [.cell 4 23, .tmp 5], Tryd.f9.body.getD .skip, k9, false, []⟩
def k10 : Keep := assoc [] [(0, [2, 3, 4]), (1, [2, 3, 4, 13]), (2, [4, 5]), (3, [4, 5])]
noncomputable def d10 : FnD := ⟨28, [.cell 4 23, .tmp 5], Tryd.f10.body.getD .skip, k10, false, []⟩
def k11 : Keep := assoc [] [(0, [2, 3, 4]), (1, [4, 5])]
noncomputable def d11 : FnD := ⟨16, [.cell 4 23, .tmp 5], Tryd.f11.body.getD .skip, k11, false, []⟩
def k12 : Keep := assoc [] [(0, [2, 3, 4]), (1, [2, 3, 4, 13]), (2, [4, 5]), (3, [4, 5])]
noncomputable def d12 : FnD := ⟨40, [.cell 4 23, .tmp 5], Tryd.f12.body.getD .skip, k12, false, []⟩
def k13 : Keep := assoc [] [(0, [1, 2]), (1, [2, 3])]
noncomputable def d13 : FnD := ⟨13, [.cell 2 23, .tmp 3], Tryd.f13.body.getD .skip, k13, false, []⟩
def k14 : Keep := assoc [] [(0, [1, 2]), (1, [1, 2, 6]), (2, [2, 3]), (3, [2, 3])]
noncomputable def d14 : FnD := ⟨13, [.cell 2 23, .tmp 3], Tryd.f14.body.getD .skip, k14, false, []⟩
def k15 : Keep := assoc [] [(0, [2, 3]), (1, [2, 3, 14]), (2, [4, 5]), (3, [6]), (4, [4, 5])]
noncomputable def d15 : FnD := ⟨28, [.tmp 4, .tmp 5], Tryd.f15.body.getD .skip, k15, false, []⟩
def k16 : Keep := assoc [] [(0, [2, 3]), (1, [2, 3, 13]), (2, [4, 5]), (3, [4, 5])]
noncomputable def d16 : FnD := ⟨26, [.tmp 4, .tmp 5], Tryd.f16.body.getD .skip, k16, false, []⟩
def k17 : Keep := assoc [] [(0, [2, 3]), (1, [2, 3, 13]), (2, [4, 5]), (3, [4, 5])]
noncomputable def d17 : FnD := ⟨22, [.tmp 4, .tmp 5], Tryd.f17.body.getD .skip, k17, false, []⟩
def k18 : Keep := assoc [] [(0, [2, 3]), (1, [2, 3, 13]), (2, [4, 5]), (3, [4, 5])]
noncomputable def d18 : FnD := ⟨25, [.tmp 4, .tmp 5], Tryd.f18.body.getD .skip, k18, false, []⟩
def k19 : Keep := assoc [] [(0, [1]), (1, [2])]
noncomputable def d19 : FnD := ⟨11, [.tmp 2], Tryd.f19.body.getD .skip, k19, false, []⟩
def k20 : Keep := assoc [] [(0, [1]), (1, [2])]
noncomputable def d20 : FnD := ⟨21, [.tmp 2], Tryd.f20.body.getD .skip, k20, false, []⟩
def k21 : Keep := assoc [] [(0, [0]), (1, [2])]
noncomputable def d21 : FnD := ⟨4, [.tmp 2], Tryd.f21.body.getD .skip, k21, false, []⟩
def k22 : Keep := assoc [] [(0, []), (1, [1, 2]), (2, [1, 2, 3, 4]), (3, [1, 2, 3, 4, 5, 6]), (4, [1, 2, 3, 4, 5, 6, 7, 8]), (5, [1, 2, 3, 4, 5, 6, 7, 8, 9, 10]), (6, [1, 3, 4, 5, 6, 7, 8, 9, 10, 11, 12]), (7, [1, 3, 4, 5, 6, 7, 8, 9, 10, 11, 12, 13, 14]), (8, [1, 3, 4, 5, 6, 7, 8, 9, 10, 11, 12, 13, 14, 16]), (9, [1, 3, 4, 5, 6, 7, 8, 9, 10, 11, 12, 13, 14, 16, 18]), (10, [0])]
noncomputable def d22 : FnD := ⟨142, [.tmp 0], Tryd.f22.body.getD .skip, k22, false, []⟩
def k23 : Keep := assoc [] [(0, [1, 2]), (1, [2])]
noncomputable def d23 : FnD := ⟨13, [.cell 2 47], Tryd.f23.body.getD .skip, k23, false, []⟩
def k24 : Keep := assoc [] [(0, [0, 3, 4]), (1, [0, 3, 4, 13]), (2, [4, 5]), (3, [0, 3, 4, 6]), (4, [0, 4, 6, 16, 17, 18]), (5, [0, 4, 6, 16, 17, 18, 19]), (6, [0, 4, 6, 8, 16, 17, 18]), (7, [0, 4, 6, 9, 16, 17, 18]), (8, [0, 4, 6, 16, 17, 18]), (9, [0, 4, 6, 16, 17, 18]), (10, [4, 5])]
noncomputable def d24 : FnD := ⟨39, [.cell 4 23, .tmp 5], Tryd.f24.body.getD .skip, k24, false, []⟩
def k25 : Keep := assoc [] [(0, [0, 3, 4]), (1, [0, 3, 4, 12]), (2, [4, 5]), (3, [0, 3, 4, 6]), (4, [0, 3, 4, 6, 7]), (5, [0, 3, 4, 6, 7, 18]), (6, [0, 3, 4, 6, 7]), (7, [0, 3, 4, 6, 7, 8]), (8, [0, 3, 4, 6, 7, 8, 34]), (9, [0, 3, 4, 6, 7]), (10, [0, 3, 4, 6, 7]), (11, [4, 5])]
noncomputable def d25 : FnD := ⟨46, [.cell 4 23, .tmp 5], Tryd.f25.body.getD .skip, k25, false, []⟩
def k26 : Keep := assoc [] [(0, [2, 3]), (1, [4])]
noncomputable def d26 : FnD := ⟨24, [.tmp 4], Tryd.f26.body.getD .skip, k26, false, []⟩
def k27 : Keep := assoc [] [(0, [0, 1, 4]), (1, [4])]
noncomputable def d27 : FnD := ⟨16, [.cell 4 23], Tryd.f27.body.getD .skip, k27, false, []⟩
def k28 : Keep := assoc [] [(0, [2, 3, 4, 6]), (1, [3, 4, 6, 8]), (2, [6, 8, 11]), (3, [6, 7]), (4, [6, 8, 21]), (5, [6, 7]), (6, [6, 7])]
noncomputable def d28 : FnD := ⟨27, [.cell 6 23, .tmp 7], Tryd.f28.body.getD .skip, k28, false, []⟩
def k29 : Keep := assoc [] [(0, [1]), (1, [2])]
noncomputable def d29 : FnD := ⟨10, [.tmp 2], Tryd.f29.body.getD .skip, k29, false, []⟩
def k30 : Keep := assoc [] [(0, [0, 1, 4]), (1, [4, 6]), (2, [4, 6, 12]), (3, [4, 5]), (4, [4, 5])]
noncomputable def d30 : FnD := ⟨15, [.cell 4 23, .tmp 5], Tryd.f30.body.getD .skip, k30, false, []⟩
def k31 : Keep := assoc [] [(0, [0]), (1, [2])]
noncomputable def d31 : FnD := ⟨9, [.tmp 2], Tryd.f31.body.getD .skip, k31, false, []⟩
def k32 : Keep := assoc [] [(0, [0]), (1, [2])]
noncomputable def d32 : FnD := ⟨9, [.tmp 2], Tryd.f32.body.getD .skip, k32, false, []⟩
def k33 : Keep := assoc [] [(0, []), (1, [0])]
noncomputable def d33 : FnD := ⟨9, [.tmp 0], Tryd.f33.body.getD .skip, k33, false, []⟩
def k34 : Keep := assoc [] [(0, [0]), (1, [0, 3]), (2, [0, 3, 4]), (3, [0, 3, 4, 8]), (4, [0, 3, 4]), (5, [0, 3, 4]), (6, [2])]
noncomputable def d34 : FnD := ⟨27, [.tmp 2], Tryd.f34.body.getD .skip, k34, false, [(2, .own 58), (3, .own 58)]⟩
def k35 : Keep := assoc [] [(0, [0]), (1, [0, 3]), (2, [0, 3, 4]), (3, [0, 3, 4, 8]), (4, [0, 3, 4]), (5, [0, 3, 4]), (6, [2])]
noncomputable def d35 : FnD := ⟨20, [.tmp 2], Tryd.f35.body.getD .skip, k35, false, [(2, .own 56), (3, .own 56)]⟩
def k36 : Keep := assoc [] [(0, [0, 3]), (1, [0, 3, 31]), (2, [4]), (3, [0, 3, 5, 6]), (4, [0, 3, 5, 6, 7, 8]), (5, [5, 6, 7, 8, 9, 10]), (6, [4])]
noncomputable def d36 : FnD := ⟨68, [.tmp 4], Tryd.f36.body.getD .skip, k36, false, []⟩
def k37 : Keep := assoc [] [(0, [0, 3]), (1, [3, 5]), (2, [5, 13]), (3, [5]), (4, [4])]
noncomputable def d37 : FnD := ⟨17, [.tmp 4], Tryd.f37.body.getD .skip, k37, false, []⟩
def k38 : Keep := assoc [] [(0, [0, 2]), (1, [2])]
noncomputable def d38 : FnD := ⟨10, [.cell 2 23], Tryd.f38.body.getD .skip, k38, false, []⟩
def k39 : Keep := assoc [] [(0, [0, 3]), (1, [0, 3, 32]), (2, [4]), (3, [0, 3, 5]), (4, [0, 3, 5, 37]), (5, [0, 3, 5]), (6, [0, 3, 5, 47]), (7, [4]), (8, [0, 3, 6]), (9, [0, 3, 6, 52]), (10, [0, 3, 6]), (11, [0, 3, 6, 62]), (12, [4]), (13, [0, 3, 7]), (14, [0, 3, 7, 67]), (15, [0, 3, 7]), (16, [0, 3, 7, 8]), (17, [0, 3, 7, 88]), (18, [4]), (19, [9]), (20, [9, 10]), (21, [9, 10, 11]), (22, [9, 10, 11, 94]), (23, [9, 10, 11]), (24, [9, 10, 11]), (25, [4])]
noncomputable def d39 : FnD := ⟨106, [.tmp 4], Tryd.f39.body.getD .skip, k39, false, []⟩
def k40 : Keep := assoc [] [(0, [0, 1]), (1, [0, 1, 5]), (2, [0, 1, 5, 6]), (3, [0, 1, 5, 6, 10]), (4, [0, 1, 5, 6]), (5, [0, 1, 5, 6, 17]), (6, [0, 1, 5, 6]), (7, [0, 1, 5, 6]), (8, [4])]
noncomputable def d40 : FnD := ⟨31, [.tmp 4], Tryd.f40.body.getD .skip, k40, false, []⟩
def k41 : Keep := assoc [] [(0, [0, 1]), (1, [0, 1, 10]), (2, [4]), (3, [0, 1, 5]), (4, [0, 1, 5, 14]), (5, [0, 1, 5]), (6, [0, 1, 5, 41]), (7, [4]), (8, [4])]
noncomputable def d41 : FnD := ⟨42, [.tmp 4], Tryd.f41.body.getD .skip, k41, false, []⟩
def k42 : Keep := assoc [] [(0, [0, 1]), (1, [0, 1, 10]), (2, [4]), (3, [0, 1, 5]), (4, [0, 1, 5, 14]), (5, [0, 1, 5]), (6, [0, 1, 5, 26]), (7, [4]), (8, [4])]
noncomputable def d42 : FnD := ⟨27, [.tmp 4], Tryd.f42.body.getD .skip, k42, false, []⟩
def k43 : Keep := assoc [] [(0, [0]), (1, [2])]
noncomputable def d43 : FnD := ⟨6, [.tmp 2], Tryd.f43.body.getD .skip, k43, false, []⟩
def k44 : Keep := assoc [] [(0, [0]), (1, [0, 18]), (2, [2]), (3, [0, 3]), (4, [0, 3, 22]), (5, [0, 3]), (6, [0, 3, 41]), (7, [2]), (8, [2])]
noncomputable def d44 : FnD := ⟨42, [.tmp 2], Tryd.f44.body.getD .skip, k44, false, []⟩
def k45 : Keep := assoc [] [(0, [0, 1]), (1, [0, 1, 6]), (2, [0, 6, 9, 10, 11]), (3, [0, 6, 9, 10, 11, 12]), (4, [0, 6, 8, 9, 10, 11]), (5, [0, 6, 8, 9, 10, 11, 18]), (6, [4, 5]), (7, [0, 6, 9, 10, 11]), (8, [0, 6, 9, 10, 11]), (9, [4, 5])]
noncomputable def d45 : FnD := ⟨26, [.tmp 4, .tmp 5], Tryd.f45.body.getD .skip, k45, false, []⟩
def k46 : Keep := assoc [] [(0, [0, 1]), (1, [0, 1, 6, 7]), (2, [0, 6, 7, 12, 13, 14]), (3, [0, 6, 7, 12, 13, 14, 15]), (4, [0, 6, 7, 8, 9, 12, 13, 14]), (5, [0, 6, 7, 8, 9, 10, 11, 12, 13, 14]), (6, [0, 6, 7, 9, 10, 11, 12, 13, 14, 26]), (7, [0, 6, 7, 9, 10, 11, 12, 13, 14]), (8, [0, 6, 7, 9, 12, 13, 14, 34]), (9, [4, 5]), (10, [0, 6, 7, 12, 13, 14]), (11, [0, 6, 7, 12, 13, 14]), (12, [4, 5])]
noncomputable def d46 : FnD := ⟨41, [.tmp 4, .tmp 5], Tryd.f46.body.getD .skip, k46, false, []⟩
def k47 : Keep := assoc [] [(0, [0, 1]), (1, [0, 1, 5]), (2, [0, 5, 8, 9, 10]), (3, [0, 5, 8, 9, 10, 11]), (4, [0, 5, 7, 8, 9, 10]), (5, [0, 5, 7, 8, 9, 10, 15]), (6, [0, 5, 8, 9, 10]), (7, [0, 5, 8, 9, 10]), (8, [0, 5, 8, 9, 10]), (9, [4])]
noncomputable def d47 : FnD := ⟨27, [.tmp 4], Tryd.f47.body.getD .skip, k47, false, []⟩
def k48 : Keep := assoc [] [(0, [0]), (1, [0, 18]), (2, [2]), (3, [0, 3]), (4, [0, 3, 22]), (5, [0, 3]), (6, [0, 3, 41]), (7, [2]), (8, [2])]
noncomputable def d48 : FnD := ⟨42, [.tmp 2], Tryd.f48.body.getD .skip, k48, false, []⟩
def k49 : Keep := assoc [] [(0, [0, 3]), (1, [4])]
noncomputable def d49 : FnD := ⟨13, [.tmp 4], Tryd.f49.body.getD .skip, k49, false, []⟩
def k50 : Keep := assoc [] [(0, [0, 1]), (1, [0, 1, 9]), (2, [4]), (3, [0, 1, 5, 6]), (4, [0, 1, 5, 6, 13]), (5, [0, 1, 5, 6]), (6, [0, 1, 5, 6, 19]), (7, [4]), (8, [0, 1, 5, 6]), (9, [4])]
noncomputable def d50 : FnD := ⟨23, [.tmp 4], Tryd.f50.body.getD .skip, k50, false, []⟩
def k51 : Keep := assoc [] [(0, [1]), (1, [1, 3]), (2, [1, 3, 4]), (3, [1, 3, 4, 11]), (4, [1, 3, 4]), (5, [1, 3, 4]), (6, [1, 3, 5]), (7, [1, 3, 5, 27]), (8, [1, 3, 5]), (9, [1, 3, 5]), (10, [1, 3, 6]), (11, [1, 3, 6, 42]), (12, [1, 3, 6]), (13, [1, 3, 6]), (14, [2])]
noncomputable def d51 : FnD := ⟨55, [.tmp 2], Tryd.f51.body.getD .skip, k51, false, [(2, .own 56), (3, .own 56)]⟩
def k52 : Keep := assoc [] [(0, [0, 1]), (1, [0, 1, 10]), (2, [4]), (3, [0, 1, 5]), (4, [0, 1, 5, 14]), (5, [0, 1, 5]), (6, [0, 1, 5, 25]), (7, [4]), (8, [4])]
noncomputable def d52 : FnD := ⟨26, [.tmp 4], Tryd.f52.body.getD .skip, k52, false, []⟩
def k53 : Keep := assoc [] [(0, [1]), (1, [2])]
noncomputable def d53 : FnD := ⟨36, [.tmp 2], Tryd.f53.body.getD .skip, k53, false, []⟩
def k54 : Keep := assoc [] [(0, [0, 1]), (1, [0, 1, 7, 8]), (2, [0, 1, 7, 8, 9]), (3, [0, 1, 5, 7, 8]), (4, [0, 1, 5, 7, 8, 17]), (5, [4]), (6, [0, 1, 7, 8]), (7, [4])]
noncomputable def d54 : FnD := ⟨20, [.tmp 4], Tryd.f54.body.getD .skip, k54, false, []⟩
def k55 : Keep := assoc [] [(0, [0, 3]), (1, [4])]
noncomputable def d55 : FnD := ⟨9, [.tmp 4], Tryd.f55.body.getD .skip, k55, false, []⟩
def k56 : Keep := assoc [] [(0, [0, 1]), (1, [6, 7]), (2, [6, 15]), (3, [4, 5]), (4, [4, 5])]
noncomputable def d56 : FnD := ⟨18, [.tmp 4, .tmp 5], Tryd.f56.body.getD .skip, k56, false, []⟩
def k57 : Keep := assoc [] [(0, [1]), (1, [1, 20]), (2, [2]), (3, [1, 3]), (4, [1, 3, 25]), (5, [1, 3]), (6, [1, 3, 47]), (7, [2]), (8, [2])]
noncomputable def d57 : FnD := ⟨76, [.tmp 2], Tryd.f57.body.getD .skip, k57, false, []⟩
def k58 : Keep := assoc [] [(0, [0, 1]), (1, [0, 1, 5]), (2, [0, 1, 5, 9]), (3, [0, 1, 5]), (4, [0, 1, 5, 18]), (5, [4]), (6, [4])]
noncomputable def d58 : FnD := ⟨20, [.tmp 4], Tryd.f58.body.getD .skip, k58, false, []⟩
def k59 : Keep := assoc [] [(0, [0, 1]), (1, [4])]
noncomputable def d59 : FnD := ⟨46, [.tmp 4], Tryd.f59.body.getD .skip, k59, false, []⟩
def k60 : Keep := assoc [] [(0, [0, 1, 2]), (1, [0, 1, 7, 8]), (2, [0, 1, 7, 8, 11]), (3, [0, 1, 7, 8, 31]), (4, [6]), (5, [0, 1, 7, 8]), (6, [0, 1, 7, 8, 38]), (7, [0, 1, 7, 8, 47]), (8, [6]), (9, [0, 1, 7, 8]), (10, [0, 1, 7, 8]), (11, [6])]
noncomputable def d60 : FnD := ⟨61, [.tmp 6], Tryd.f60.body.getD .skip, k60, false, []⟩
def k61 : Keep := assoc [] [(0, [0]), (1, [0, 16]), (2, [2]), (3, [0, 18, 19]), (4, [0, 18, 19, 20]), (5, [0, 3, 18, 19]), (6, [0, 18, 19, 38]), (7, [2]), (8, [0, 18, 19]), (9, [2])]
noncomputable def d61 : FnD := ⟨40, [.tmp 2], Tryd.f61.body.getD .skip, k61, false, []⟩
def k62 : Keep := assoc [] [(0, [0, 1]), (1, [0, 1, 33]), (2, [4]), (3, [0, 1, 5, 6]), (4, [4])]
noncomputable def d62 : FnD := ⟨54, [.tmp 4], Tryd.f62.body.getD .skip, k62, false, []⟩
def k63 : Keep := assoc [] [(0, [0, 1]), (1, [0, 1, 17]), (2, [4, 5]), (3, [0, 1, 6]), (4, [0, 1, 6, 7]), (5, [0, 1, 6, 7, 21]), (6, [4, 5]), (7, [0, 1, 6, 7, 8, 9]), (8, [0, 1, 6, 7, 8, 31]), (9, [4, 5]), (10, [0, 1, 6, 8]), (11, [0, 1, 6, 7])]
noncomputable def d63 : FnD := ⟨37, [.tmp 4, .tmp 5], Tryd.f63.body.getD .skip, k63, false, [(4, .own 3)]⟩
def k64 : Keep := assoc [] [(0, [0]), (1, [2])]
noncomputable def d64 : FnD := ⟨9, [.tmp 2], Tryd.f64.body.getD .skip, k64, false, []⟩
def k65 : Keep := assoc [] [(0, [0]), (1, [2])]
noncomputable def d65 : FnD := ⟨9, [.tmp 2], Tryd.f65.body.getD .skip, k65, false, []⟩
def k66 : Keep := assoc [] [(0, [0, 1, 2]), (1, [0, 1, 2, 8]), (2, [0, 1, 2, 8, 14]), (3, [6, 7]), (4, [0, 1, 2, 8, 9, 10]), (5, [0, 1, 2, 8, 9, 25]), (6, [6, 7]), (7, [0, 1, 2, 8, 9]), (8, [0, 1, 2, 8]), (9, [0, 1, 2, 8, 33]), (10, [6, 7])]
noncomputable def d66 : FnD := ⟨35, [.tmp 6, .tmp 7], Tryd.f66.body.getD .skip, k66, false, []⟩
def k67 : Keep := assoc [] [(0, [0, 1]), (1, [0, 1, 6]), (2, [4, 5]), (3, [0, 1, 12]), (4, [4, 5]), (5, [4, 5])]
noncomputable def d67 : FnD := ⟨30, [.tmp 4, .tmp 5], Tryd.f67.body.getD .skip, k67, false, []⟩
def k68 : Keep := assoc [] [(0, [0]), (1, [2])]
noncomputable def d68 : FnD := ⟨5, [.tmp 2], Tryd.f68.body.getD .skip, k68, false, []⟩
noncomputable def code : List (FuncId × FnD) := [(3, d3), (4, d4), (5, d5), (6, d6), (7, d7), (8, d8), (9, d9), (10, d10), (11, d11), (12, d12), (13, d13), (14, d14), (15, d15), (16, d16), (17, d17), (18, d18), (19, d19), (20, d20), (21, d21), (22, d22), (23, d23), (24, d24), (25, d25), (26, d26), (27, d27), (28, d28), (29, d29), (30, d30), (31, d31), (32, d32), (33, d33), (34, d34), (35, d35), (36, d36), (37, d37), (38, d38), (39, d39), (40, d40), (41, d41), (42, d42), (43, d43), (44, d44), (45, d45), (46, d46), (47, d47), (48, d48), (49, d49), (50, d50), (51, d51), (52, d52), (53, d53), (54, d54), (55, d55), (56, d56), (57, d57), (58, d58), (59, d59), (60, d60), (61, d61), (62, d62), (63, d63), (64, d64), (65, d65), (66, d66), (67, d67), (68, d68)]
theorem code_ok : CodeOk Tryd.prog code :=
  .cons Tryd.func3 ⟨rfl, rfl, rfl, by decide +kernel⟩ <|
  .cons Tryd.func4 ⟨rfl, rfl, rfl, by decide +kernel⟩ <|
  .cons Tryd.func5 ⟨rfl, rfl, rfl, by decide +kernel⟩ <|
  .cons Tryd.func6 ⟨rfl, rfl, rfl, by decide +kernel⟩ <|
  .cons Tryd.func7 ⟨rfl, rfl, rfl, by decide +kernel⟩ <|
  .cons Tryd.func8 ⟨rfl, rfl, rfl, by decide +kernel⟩ <|
  .cons Tryd.func9 ⟨rfl, rfl, rfl, by decide +kernel⟩ <|
  .cons Tryd.func10 ⟨rfl, rfl, rfl, by decide +kernel⟩ <|
  .cons Tryd.func11 ⟨rfl, rfl, rfl, by decide +kernel⟩ <|
  .cons Tryd.func12 ⟨rfl, rfl, rfl, by decide +kernel⟩ <|
  .cons Tryd.func13 ⟨rfl, rfl, rfl, by decide +kernel⟩ <|
  .cons Tryd.func14 ⟨rfl, rfl, rfl, by decide +kernel⟩ <|
  .cons Tryd.func15 ⟨rfl, rfl, rfl, by decide +kernel⟩ <|
  .cons Tryd.func16 ⟨rfl, rfl, rfl, by decide +kernel⟩ <|
  .cons Tryd.func17 ⟨rfl, rfl, rfl, by decide +kernel⟩ <|
  .cons Tryd.func18 ⟨rfl, rfl, rfl, by decide +kernel⟩ <|
  .cons Tryd.func19 ⟨rfl, rfl, rfl, by decide +kernel⟩ <|
  .cons Tryd.func20 ⟨rfl, rfl, rfl, by decide +kernel⟩ <|
  .cons Tryd.func21 ⟨rfl, rfl, rfl, by decide +kernel⟩ <|
  .cons Tryd.func22 ⟨rfl, rfl, rfl, by decide +kernel⟩ <|
  .cons Tryd.func23 ⟨rfl, rfl, rfl, by decide +kernel⟩ <|
  .cons Tryd.func24 ⟨rfl, rfl, rfl, by decide +kernel⟩ <|
  .cons Tryd.func25 ⟨rfl, rfl, rfl, by decide +kernel⟩ <|
  .cons Tryd.func26 ⟨rfl, rfl, rfl, by decide +kernel⟩ <|
  .cons Tryd.func27 ⟨rfl, rfl, rfl, by decide +kernel⟩ <|
  .cons Tryd.func28 ⟨rfl, rfl, rfl, by decide +kernel⟩ <|
  .cons Tryd.func29 ⟨rfl, rfl, rfl, by decide +kernel⟩ <|
  .cons Tryd.func30 ⟨rfl, rfl, rfl, by decide +kernel⟩ <|
  .cons Tryd.func31 ⟨rfl, rfl, rfl, by decide +kernel⟩ <|
  .cons Tryd.func32 ⟨rfl, rfl, rfl, by decide +kernel⟩ <|
  .cons Tryd.func33 ⟨rfl, rfl, rfl, by decide +kernel⟩ <|
  .cons Tryd.func34 ⟨rfl, rfl, rfl, by decide +kernel⟩ <|
  .cons Tryd.func35 ⟨rfl, rfl, rfl, by decide +kernel⟩ <|
  .cons Tryd.func36 ⟨rfl, rfl, rfl, by decide +kernel⟩ <|
  .cons Tryd.func37 ⟨rfl, rfl, rfl, by decide +kernel⟩ <|
  .cons Tryd.func38 ⟨rfl, rfl, rfl, by decide +kernel⟩ <|
  .cons Tryd.func39 ⟨rfl, rfl, rfl, by decide +kernel⟩ <|
  .cons Tryd.func40 ⟨rfl, rfl, rfl, by decide +kernel⟩ <|
  .cons Tryd.func41 ⟨rfl, rfl, rfl, by decide +kernel⟩ <|
  .cons Tryd.func42 ⟨rfl, rfl, rfl, by decide +kernel⟩ <|
  .cons Tryd.func43 ⟨rfl, rfl, rfl, by decide +kernel⟩ <|
  .cons Tryd.func44 ⟨rfl, rfl, rfl, by decide +kernel⟩ <|
  .cons Tryd.func45 ⟨rfl, rfl, rfl, by decide +kernel⟩ <|
  .cons Tryd.func46 ⟨rfl, rfl, rfl, by decide +kernel⟩ <|
  .cons Tryd.func47 ⟨rfl, rfl, rfl, by decide +kernel⟩ <|
  .cons Tryd.func48 ⟨rfl, rfl, rfl, by decide +kernel⟩ <|
  .cons Tryd.func49 ⟨rfl, rfl, rfl, by decide +kernel⟩ <|
  .cons Tryd.func50 ⟨rfl, rfl, rfl, by decide +kernel⟩ <|
  .cons Tryd.func51 ⟨rfl, rfl, rfl, by decide +kernel⟩ <|
  .cons Tryd.func52 ⟨rfl, rfl, rfl, by decide +kernel⟩ <|
  .cons Tryd.func53 ⟨rfl, rfl, rfl, by decide +kernel⟩ <|
  .cons Tryd.func54 ⟨rfl, rfl, rfl, by decide +kernel⟩ <|
  .cons Tryd.func55 ⟨rfl, rfl, rfl, by decide +kernel⟩ <|
  .cons Tryd.func56 ⟨rfl, rfl, rfl, by decide +kernel⟩ <|
  .cons Tryd.func57 ⟨rfl, rfl, rfl, by decide +kernel⟩ <|
  .cons Tryd.func58 ⟨rfl, rfl, rfl, by decide +kernel⟩ <|
  .cons Tryd.func59 ⟨rfl, rfl, rfl, by decide +kernel⟩ <|
  .cons Tryd.func60 ⟨rfl, rfl, rfl, by decide +kernel⟩ <|
  .cons Tryd.func61 ⟨rfl, rfl, rfl, by decide +kernel⟩ <|
  .cons Tryd.func62 ⟨rfl, rfl, rfl, by decide +kernel⟩ <|
  .cons Tryd.func63 ⟨rfl, rfl, rfl, by decide +kernel⟩ <|
  .cons Tryd.func64 ⟨rfl, rfl, rfl, by decide +kernel⟩ <|
  .cons Tryd.func65 ⟨rfl, rfl, rfl, by decide +kernel⟩ <|
  .cons Tryd.func66 ⟨rfl, rfl, rfl, by decide +kernel⟩ <|
  .cons Tryd.func67 ⟨rfl, rfl, rfl, by decide +kernel⟩ <|
  .cons Tryd.func68 ⟨rfl, rfl, rfl, by decide +kernel⟩ <|
  .nil _
def R : Rets := fun f => match f with
  | 3 => [(.d (.bool), [.any, .any])]
  | 9 => [(.tup [.d (.agg [.int .i64, .int .i64]), .d (.int .i64)], [.any, .any])]
  | 10 => [(.tup [.d (.agg [.int .i64, .int .i64]), .d (.int .i64)], [.any, .any])]
  | 11 => [(.tup [.d (.agg [.int .i64, .int .i64]), .d (.int .i64)], [.any, .any])]
  | 12 => [(.tup [.d (.agg [.int .i64, .int .i64]), .d (.int .i64)], [.any, .any])]
  | 13 => [(.tup [.d (.agg [.int .i64, .int .i64]), .d (.int .i64)], [.any])]
  | 14 => [(.tup [.d (.agg [.int .i64, .int .i64]), .d (.int .i64)], [.any])]
  | 15 => [(.tup [.d (.bool), .d (.int .i64)], [.any, .any])]
  | 16 => [(.tup [.d (.bool), .d (.int .i64)], [.any, .any])]
  | 17 => [(.tup [.d (.int .i64), .d (.int .i64)], [.any, .any])]
  | 18 => [(.tup [.d (.int .i64), .d (.int .i64)], [.any, .any])]
  | 19 => [(.d (.bool), [.any])]
  | 20 => [(.d (.bool), [.any])]
  | 21 => [(.d (.int .i64), [.any])]
  | 22 => [(.d (.bool), [])]
  | 23 => [(.agg [.own 58 2, .own 56 1, .own 58 2], [.any])]
  | 24 => [(.tup [.d (.agg [.int .i64, .int .i64]), .d (.int .i64)], [.any, .any])]
  | 25 => [(.tup [.d (.agg [.int .i64, .int .i64]), .d (.int .i64)], [.any, .any])]
  | 26 => [(.d (.bool), [.any, .any])]
  | 27 => [(.d (.agg [.int .i64, .int .i64]), [.any, .any])]
  | 28 => [(.tup [.d (.agg [.int .i64, .int .i64]), .d (.int .i64)], [.any, .any, .any])]
  | 29 => [(.d (.cpx .f64), [.any])]
  | 30 => [(.tup [.d (.agg [.int .i64, .int .i64]), .d (.int .i64)], [.any, .any])]
  | 31 => [(.d (.cpx .f64), [.any])]
  | 32 => [(.d (.bool), [.any])]
  | 33 => [(.own 77 4, [])]
  | 34 => [(.own 58 2, [.any])]
  | 35 => [(.own 56 1, [.any])]
  | 36 => [(.d (.bool), [.any, .any])]
  | 37 => [(.d (.cpx .f64), [.any, .any])]
  | 38 => [(.d (.agg [.int .i64, .int .i64]), [.any]), (.agg [.d (.int .i64), .dead], [.any]), (.agg [.dead, .d (.int .i64)], [.any]), (.agg [.dead, .dead], [.any])]
  | 39 => [(.d (.bool), [.any, .any])]
  | 40 => [(.d (.int .i64), [.any, .any])]
  | 41 => [(.d (.bool), [.any, .any])]
  | 42 => [(.d (.bool), [.any, .any])]
  | 43 => [(.own 3 1, [.any])]
  | 44 => [(.d (.bool), [.any])]
  | 45 => [(.tup [.d (.int .i64), .d (.bool)], [.any, .any])]
  | 46 => [(.tup [.d (.int .i64), .d (.bool)], [.any, .any])]
  | 47 => [(.d (.int .i64), [.any, .any])]
  | 48 => [(.d (.bool), [.any])]
  | 49 => [(.d (.bool), [.any, .any])]
  | 50 => [(.d (.int .i64), [.any, .any])]
  | 51 => [(.own 56 1, [.any])]
  | 52 => [(.d (.bool), [.any, .any])]
  | 53 => [(.d (.bool), [.any])]
  | 54 => [(.d (.int .i64), [.any, .any])]
  | 55 => [(.d (.bool), [.any, .any])]
  | 56 => [(.tup [.d (.int .i64), .d (.int .i64)], [.any, .any])]
  | 57 => [(.d (.bool), [.any])]
  | 58 => [(.d (.int .i64), [.any, .any])]
  | 59 => [(.d (.bool), [.any, .any])]
  | 60 => [(.d (.int .i64), [.any, .any, .any])]
  | 61 => [(.d (.bool), [.any])]
  | 62 => [(.d (.bool), [.any, .any])]
  | 63 => [(.tup [.own 3 1, .d (.bool)], [.any, .any])]
  | 64 => [(.d (.bool), [.any])]
  | 65 => [(.d (.bool), [.any])]
  | 66 => [(.tup [.d (.int .i64), .d (.bool)], [.any, .any, .any])]
  | 67 => [(.tup [.d (.int .i64), .d (.bool)], [.any, .any])]
  | 68 => [(.d (.int .i64), [.any])]
  | _ => [(.any, [])]
noncomputable def F : Fx := ⟨T, [(0, [.str "=".toUTF8, .int .i64 0, .int .i64 2, .int .i64 1])], codeOf code, fun _ => none⟩
def L3 : Lps := fun b => match b with
  | _ => [.norm []]
def L9 : Lps := fun b => match b with
  | _ => [.norm []]
def L10 : Lps := fun b => match b with
  | _ => [.norm []]
def L11 : Lps := fun b => match b with
  | _ => [.norm []]
def L12 : Lps := fun b => match b with
  | _ => [.norm []]
def L13 : Lps := fun b => match b with
  | _ => [.norm []]
def L14 : Lps := fun b => match b with
  | _ => [.norm []]
def L15 : Lps := fun b => match b with
  | _ => [.norm []]
def L16 : Lps := fun b => match b with
  | _ => [.norm []]
def L17 : Lps := fun b => match b with
  | _ => [.norm []]
def L18 : Lps := fun b => match b with
  | _ => [.norm []]
def L19 : Lps := fun b => match b with
  | _ => [.norm []]
def L20 : Lps := fun b => match b with
  | _ => [.norm []]
def L21 : Lps := fun b => match b with
  | _ => [.norm []]
def L23 : Lps := fun b => match b with
  | _ => [.norm []]
def L24 : Lps := fun b => match b with
  | 0 => [.norm [(0, .d (.sl 4)), (4, .dbox 23 0 [.int .i64, .int .i64]), (6, .d (.cpx .f64)), (16, .d (.sl 2)), (17, .d (.int .i64)), (18, .d (.int .i64))]]
  | _ => [.norm []]
def L25 : Lps := fun b => match b with
  | 0 => [.norm [(0, .d (.sl 4)), (3, .dbox 47 0 [.sl 2, .sl 1, .sl 2]), (4, .dbox 23 0 [.int .i64, .int .i64]), (6, .dbox 23 0 [.int .i64, .int .i64]), (7, .d (.int .i64))]]
  | _ => [.norm []]
def L26 : Lps := fun b => match b with
  | _ => [.norm []]
def L27 : Lps := fun b => match b with
  | _ => [.norm []]
def L28 : Lps := fun b => match b with
  | _ => [.norm []]
def L29 : Lps := fun b => match b with
  | _ => [.norm []]
def L30 : Lps := fun b => match b with
  | _ => [.norm []]
def L31 : Lps := fun b => match b with
  | _ => [.norm []]
def L32 : Lps := fun b => match b with
  | _ => [.norm []]
def L33 : Lps := fun b => match b with
  | _ => [.norm []]
def L34 : Lps := fun b => match b with
  | 0 => [.norm [(0, .d (.sl 2)), (3, .own 58 2), (4, .d (.int .i64))]]
  | _ => [.norm []]
def L35 : Lps := fun b => match b with
  | 0 => [.norm [(0, .d (.sl 1)), (3, .own 56 1), (4, .d (.int .i64))]]
  | _ => [.norm []]
def L36 : Lps := fun b => match b with
  | _ => [.norm []]
def L37 : Lps := fun b => match b with
  | _ => [.norm []]
def L38 : Lps := fun b => match b with
  | _ => [.norm []]
def L39 : Lps := fun b => match b with
  | 0 => [.ret [(4, .d (.bool))], .norm [(0, .d (.sl 4)), (3, .dbox 47 0 [.sl 2, .sl 1, .sl 2]), (5, .d (.int .i64))]]
  | 2 => [.ret [(4, .d (.bool))], .norm [(0, .d (.sl 4)), (3, .dbox 47 0 [.sl 2, .sl 1, .sl 2]), (6, .d (.int .i64))]]
  | 4 => [.ret [(4, .d (.bool))], .norm [(0, .d (.sl 4)), (3, .dbox 47 0 [.sl 2, .sl 1, .sl 2]), (7, .d (.int .i64))]]
  | 6 => [.norm [(9, .own 56 1), (10, .d (.int .i64)), (11, .d (.int .i64))]]
  | _ => [.norm []]
def L40 : Lps := fun b => match b with
  | 0 => [.norm [(0, .d (.sl 4)), (1, .d (.sl 1)), (5, .d (.int .i64)), (6, .d (.int .i64))]]
  | _ => [.norm []]
def L41 : Lps := fun b => match b with
  | 0 => [.ret [(4, .d (.bool))], .norm [(0, .d (.sl 2)), (1, .d (.sl 2)), (5, .d (.int .i64))]]
  | _ => [.norm []]
def L42 : Lps := fun b => match b with
  | 0 => [.ret [(4, .d (.bool))], .norm [(0, .d (.sl 1)), (1, .d (.sl 1)), (5, .d (.int .i64))]]
  | _ => [.norm []]
def L43 : Lps := fun b => match b with
  | _ => [.norm []]
def L44 : Lps := fun b => match b with
  | 0 => [.ret [(2, .d (.bool))], .norm [(0, .d (.sl 4)), (3, .d (.int .i64))]]
  | _ => [.norm []]
def L45 : Lps := fun b => match b with
  | 0 => [.ret [(4, .d (.int .i64)), (5, .d (.bool))], .norm [(0, .d (.sl 4)), (6, .d (.int .i64)), (9, .d (.sl 2)), (10, .d (.int .i64)), (11, .d (.int .i64))]]
  | _ => [.norm []]
def L46 : Lps := fun b => match b with
  | 0 => [.ret [(4, .d (.int .i64)), (5, .d (.bool))], .norm [(0, .d (.sl 4)), (6, .d (.int .i64)), (7, .d (.int .i64)), (12, .d (.sl 1)), (13, .d (.int .i64)), (14, .d (.int .i64))]]
  | _ => [.norm []]
def L47 : Lps := fun b => match b with
  | 0 => [.norm [(0, .d (.sl 4)), (5, .d (.int .i64)), (8, .d (.sl 1)), (9, .d (.int .i64)), (10, .d (.int .i64))]]
  | _ => [.norm []]
def L48 : Lps := fun b => match b with
  | 0 => [.ret [(2, .d (.bool))], .norm [(0, .d (.sl 4)), (3, .d (.int .i64))]]
  | _ => [.norm []]
def L49 : Lps := fun b => match b with
  | _ => [.norm []]
def L50 : Lps := fun b => match b with
  | 0 => [.ret [(4, .d (.int .i64))], .norm [(0, .d (.sl 4)), (1, .d (.sl 1)), (5, .d (.int .i64)), (6, .d (.int .i64))]]
  | _ => [.norm []]
def L51 : Lps := fun b => match b with
  | 0 => [.norm [(1, .dbox 47 0 [.sl 2, .sl 1, .sl 2]), (3, .own 56 1), (4, .d (.int .i64))]]
  | 2 => [.norm [(1, .dbox 47 0 [.sl 2, .sl 1, .sl 2]), (3, .own 56 1), (5, .d (.int .i64))]]
  | 4 => [.norm [(1, .dbox 47 0 [.sl 2, .sl 1, .sl 2]), (3, .own 56 1), (6, .d (.int .i64))]]
  | _ => [.norm []]
def L52 : Lps := fun b => match b with
  | 0 => [.ret [(4, .d (.bool))], .norm [(0, .d (.sl 1)), (1, .d (.sl 1)), (5, .d (.int .i64))]]
  | _ => [.norm []]
def L53 : Lps := fun b => match b with
  | _ => [.norm []]
def L54 : Lps := fun b => match b with
  | 0 => [.ret [(4, .d (.int .i64))], .norm [(0, .d (.sl 4)), (1, .d (.str)), (7, .d (.int .i64)), (8, .d (.int .i64))]]
  | _ => [.norm []]
def L55 : Lps := fun b => match b with
  | _ => [.norm []]
def L56 : Lps := fun b => match b with
  | _ => [.norm []]
def L57 : Lps := fun b => match b with
  | 0 => [.ret [(2, .d (.bool))], .norm [(1, .dbox 77 0 [.str, .int .i64, .int .i64, .int .i64]), (3, .d (.int .i64))]]
  | _ => [.norm []]
def L58 : Lps := fun b => match b with
  | 0 => [.ret [(4, .d (.int .i64))], .norm [(0, .d (.sl 4)), (1, .d (.str)), (5, .d (.int .i64))]]
  | _ => [.norm []]
def L59 : Lps := fun b => match b with
  | _ => [.norm []]
def L60 : Lps := fun b => match b with
  | 0 => [.ret [(6, .d (.int .i64))], .norm [(0, .d (.sl 4)), (1, .d (.sl 1)), (7, .d (.int .i64)), (8, .d (.int .i64))]]
  | _ => [.norm []]
def L61 : Lps := fun b => match b with
  | 0 => [.ret [(2, .d (.bool))], .norm [(0, .d (.str)), (18, .d (.int .i64)), (19, .d (.int .i64))]]
  | _ => [.norm []]
def L62 : Lps := fun b => match b with
  | _ => [.norm []]
def L63 : Lps := fun b => match b with
  | 1000000 => [.ret [(4, .own 3 1), (5, .d (.bool))]]
  | _ => [.norm []]
def L64 : Lps := fun b => match b with
  | _ => [.norm []]
def L65 : Lps := fun b => match b with
  | _ => [.norm []]
def L66 : Lps := fun b => match b with
  | 1000000 => [.ret [(6, .d (.int .i64)), (7, .d (.bool))]]
  | _ => [.norm []]
def L67 : Lps := fun b => match b with
  | _ => [.norm []]
def L68 : Lps := fun b => match b with
  | _ => [.norm []]
end Go.Proofs.YthemimhlhjfdaaaDoor.Ab
