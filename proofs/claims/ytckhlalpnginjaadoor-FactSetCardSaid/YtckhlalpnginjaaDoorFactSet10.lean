/- Words for the use of the evaluator: rows of whole numbers, wraps. No condition. -/
import Derived.Below
import Derived.IntWalk
import Derived.Test.YtckhlalpnginjaaDoorFactSet0
import Derived.Test.YtckhlalpnginjaaDoorFactSet1
import Derived.Test.YtckhlalpnginjaaDoorFactSet2
import Derived.Test.YtckhlalpnginjaaDoorFactSet3
import Derived.Test.YtckhlalpnginjaaDoorFactSet4
import Derived.Test.YtckhlalpnginjaaDoorFactSet5
import Derived.Test.YtckhlalpnginjaaDoorFactSet6
import Derived.Test.YtckhlalpnginjaaDoorFactSet7
import Derived.Test.YtckhlalpnginjaaDoorFactSet8
import Derived.Test.YtckhlalpnginjaaDoorFactSet9
set_option linter.unusedVariables false
set_option linter.unusedSimpArgs false
namespace Go.Ab
open Go Go.RowKit

def ints (l : List Int) : List D := l.map (D.int .i64)
def gi (l : List Int) (i : Nat) : Int := l.getD i 0
theorem ints_len (l : List Int) : (ints l).length = l.length := by simp [ints]
theorem ints_at {l : List Int} {i : Nat} (h : i < l.length) : (ints l)[i]? = some (.int .i64 (gi l i)) := by
  simp [ints, gi, h]
theorem ints_int {l : List Int} {i : Nat} (h : i < l.length) : (ints l)[Int.toNat (i : Int)]? = some (.int .i64 (gi l i)) := by
  rw [Int.toNat_natCast]; exact ints_at h
theorem wr (n : Int) (h0 : -9223372036854775808 ≤ n) (h1 : n ≤ 9223372036854775807) : IntKind.wrap .i64 n = n := by
  rw [IntKind.wrap_i64 n]; omega
theorem ints_append (l m : List Int) : ints (l ++ m) = ints l ++ ints m := by simp [ints]
end Go.Ab

/- From what the evaluator tells to the machine's call: a law. No condition. -/
set_option linter.unusedVariables false
set_option linter.unusedSimpArgs false
namespace Go.Ab
open Go Go.RowKit

/-- All that a world holds is taken as never written again. -/
def Hw (w : World) : Fz := fun k => w.heap[k]?
theorem Hw.sub (w : World) : (Hw w).sub w := fun _ _ h => h
theorem Hw.cell {w : World} {a : Addr} {v : Value} (h : w.cell? a = some v) : cellH (Hw w) a = some v := by
  unfold World.cell? at h
  unfold cellH Hw
  exact h
theorem law_run {P : Program} {F : Fx} (hF : FxOk P F) {f : FuncId} {args outs : List IV} (h : W F f args = some (.d (.bool true), outs)) {w : World} {vs : List Value} (hg : GlobOk (Hw w) F.G) (hr : IV.RepL (Hw w) w args vs []) :
    Calls P f vs.toArray w fun e w' => e = .returned (.bool true) ∧ Below w.heap.size w w' := by
  refine ((W_sound hF _ _ _ _ h).2 (Hw w) w vs [] hg (Hw.sub w) hr (by simp) (by simp)).mono ?_
  rintro e w' ⟨v, H', b2, rfl, _, _, h3, _, _, h6, _⟩
  unfold IV.Rep at h6
  have hv : v = .bool true := by
    have := h6.1
    simp only [D.RepV] at this
    unfold D.Rep at this
    simpa using this
  subst hv
  exact ⟨rfl, h3.os, h3.tape, h3.output, h3.size, fun k hk => h3.block k hk (by simp)⟩
theorem repL_ints (H : Fz) (l : List Int) : D.RepL H (ints l) (l.map (.int .i64)) := by
  induction l with
  | nil => unfold ints; simp only [List.map_nil]; unfold D.RepL; rfl
  | cons x l ih =>
    unfold ints at *
    simp only [List.map_cons]
    unfold D.RepL
    exact ⟨[.int .i64 x], _, rfl, by unfold D.Rep; rfl, ih⟩
/-- A row of whole numbers that came in. -/
theorem row_rep {w : World} {a : Option Addr} {len cap : Nat} {zs : List Int}
    (h : (a = none ∧ len = 0 ∧ cap = 0 ∧ zs = []) ∨ ∃ x, a = some x ∧ len ≤ cap ∧ cap ≤ maxLen ∧ zs.length = cap ∧ (∀ i, i < zs.length → w.cell? (x.add i) = some (.int .i64 (zs.getD i 0)))) :
    IV.Rep (Hw w) w (.d (.sl 1 a.isNone (ints (zs.take len)) [])) (.slice a len cap) [] := by
  unfold IV.Rep
  refine ⟨?_, rfl⟩
  simp only [D.RepV]
  unfold D.Rep
  rcases h with ⟨rfl, rfl, rfl, rfl⟩ | ⟨x, rfl, h1, h2, h3, h4⟩
  · exact .inl ⟨rfl, by simp [ints], rfl, rfl⟩
  · refine .inr ⟨rfl, x, cap, (zs.take len).map (.int .i64), [], ?_, ?_, h2, ?_, repL_ints _ _, by unfold D.RepL; rfl, ?_, by simp⟩
    · rw [ints_len, List.length_take, Nat.min_eq_left (by omega)]
    · rw [ints_len, List.length_take]; simp; omega
    · intro j u hj
      rw [List.append_nil] at hj
      obtain ⟨hlt, hu⟩ := List.getElem?_eq_some_iff.1 hj
      simp at hlt
      have h5 := Hw.cell (h4 j (by omega))
      rw [h5, ← hu]
      simp [List.getD_eq_getElem?_getD, show j < zs.length by omega]
    · intro y hy
      obtain ⟨z, _, rfl⟩ := List.mem_map.1 hy
      rfl
theorem int_rep {w : World} {k : IntKind} {n : Int} : IV.Rep (Hw w) w (.d (.int k n)) (.int k n) [] := by
  unfold IV.Rep; refine ⟨?_, rfl⟩; simp only [D.RepV]; unfold D.Rep; rfl
theorem pair_rep {w : World} {k k' : IntKind} {a b : Int} : IV.Rep (Hw w) w (.d (.agg [.int k a, .int k' b])) (.agg #[.int k a, .int k' b]) [] := by
  unfold IV.Rep
  refine ⟨?_, rfl⟩
  simp only [D.RepV]
  refine ⟨_, rfl, ?_⟩
  unfold D.Rep
  refine ⟨?_, by simp [D.isAgg]⟩
  unfold D.RepL
  refine ⟨[.int k a], [.int k' b], rfl, by unfold D.Rep; rfl, ?_⟩
  unfold D.RepL
  exact ⟨[.int k' b], [], rfl, by unfold D.Rep; rfl, by unfold D.RepL; rfl⟩
theorem repL_nil {H : Fz} {w : World} : IV.RepL H w [] [] [] := by unfold IV.RepL; exact ⟨rfl, rfl⟩
theorem repL_cons {H : Fz} {w : World} {x : IV} {v : Value} {xs : List IV} {vs : List Value} (h : IV.Rep H w x v []) (h2 : IV.RepL H w xs vs []) : IV.RepL H w (x :: xs) (v :: vs) [] := by
  unfold IV.RepL; exact ⟨v, vs, [], [], rfl, rfl, h, h2⟩
theorem globOk_nil (H : Fz) : GlobOk H [] := fun g cs h => by simp [assoc] at h
end Go.Ab

/- Rules for loops and labels, by what their turns do. No condition. -/
set_option linter.unusedVariables false
set_option linter.unusedSimpArgs false
namespace Go.Ab
open Go
/-- The first places of a row, with the room behind it. -/
def tkX (n : Nat) (xs ext : List D) : List D := match ext with | [] => xs.take n | _ => (xs ++ ext).take n
theorem tkX_eq (n : Nat) (xs ext : List D) (h : ext ≠ [] ∨ n ≤ xs.length) : tkX n xs ext = (xs ++ ext).take n := by
  unfold tkX
  cases ext with
  | nil => rw [List.append_nil]
  | cons x l => rfl

@[simp] theorem condW_d {p : Prop} [Decidable p] {x y : Prop} : condW (decide p) x y = (if p then x else y) := by
  by_cases h : p
  · rw [decide_eq_true h, if_pos h]; rfl
  · rw [decide_eq_false h, if_neg h]; rfl
@[simp] theorem condW_b {b : Bool} {x y : Prop} : condW b x y = (if b = true then x else y) := by
  cases b <;> rfl
@[simp] theorem condW_tt {x y : Prop} : condW true x y = x := rfl
@[simp] theorem condW_ff {x y : Prop} : condW false x y = y := rfl
theorem condW_n {b : Bool} {x y : Prop} : condW (!b) x y = condW b y x := by
  cases b <;> rfl

section
variable {F : Fx} {d : FnD} {lk p : List Nat}
/-- A loop, by what its turns do: `st` how it stands, `I` what holds, `post` what comes of it. -/
theorem loop_rule {α : Type} (st : α → Sl) (I : α → Prop) (μ : α → Nat) (post : α → Out → Prop)
    (step : ∀ x, I x → (∃ x', evP F (W F) (JW F d lk) d lk p (st x) = some (.norm (st x')) ∧ I x' ∧ μ x' < μ x ∧ ∀ o, post x' o → post x o) ∨ ∃ o, evP F (W F) (JW F d lk) d lk p (st x) = some o ∧ o.isNorm = false ∧ post x o) :
    ∀ x, I x → ∃ o, evL (JW F d lk) d p (st x) = some o ∧ post x o := by
  have key : ∀ n x, μ x < n → I x → ∃ o, evL (JW F d lk) d p (st x) = some o ∧ post x o := by
    intro n
    induction n with
    | zero => intro x h; omega
    | succ n ih =>
      intro x hn hi
      rcases step x hi with ⟨x', h1, h2, h3, h4⟩ | ⟨o, h1, h2, h3⟩
      · obtain ⟨o, h5, h6⟩ := ih x' (by omega) h2
        exact ⟨o, evL_go h1 h5, h4 o h6⟩
      · exact ⟨o, evL_end h1 h2, h3⟩
  exact fun x hi => key (μ x + 1) x (Nat.lt_succ_self _) hi
/-- Labels likewise. -/
theorem label_rule {α : Type} (lb : α → Nat) (st : α → Sl) (I : α → Prop) (μ : α → Nat) (post : α → Out → Prop) (hl : ∀ x, I x → (findLabel (Code.piece p d.body) (lb x)).isSome = true)
    (step : ∀ x, I x → (∃ x', evR F (W F) (JW F d lk) d lk p (lb x) (st x) = some (.goto (lb x') (st x')) ∧ I x' ∧ μ x' < μ x ∧ ∀ o, post x' o → post x o) ∨ ∃ o, evR F (W F) (JW F d lk) d lk p (lb x) (st x) = some o ∧ o.isGoto = false ∧ post x o) :
    ∀ x, I x → ∃ o, evG (JW F d lk) d p (lb x) (st x) = some o ∧ post x o := by
  have key : ∀ n x, μ x < n → I x → ∃ o, evG (JW F d lk) d p (lb x) (st x) = some o ∧ post x o := by
    intro n
    induction n with
    | zero => intro x h; omega
    | succ n ih =>
      intro x hn hi
      rcases step x hi with ⟨x', h1, h2, h3, h4⟩ | ⟨o, h1, h2, h3⟩
      · obtain ⟨o, h5, h6⟩ := ih x' (by omega) h2
        exact ⟨o, evG_go (hl x' h2) h1 h5, h4 o h6⟩
      · exact ⟨o, evG_end h1 h2, h3⟩
  exact fun x hi => key (μ x + 1) x (Nat.lt_succ_self _) hi
/-- All of so many. -/
theorem loop_all {n id : Nat} {st : Nat → Sl} {q : Nat → Bool} {rt : Sl} {e : Sl}
    (hgo : ∀ i, i < n → q i = true → evP F (W F) (JW F d lk) d lk p (st i) = some (.norm (st (i + 1))))
    (hno : ∀ i, i < n → q i = false → evP F (W F) (JW F d lk) d lk p (st i) = some (.ret rt))
    (hend : evP F (W F) (JW F d lk) d lk p (st n) = some (.exit id e)) :
    ∀ i, i ≤ n → ((∀ j, i ≤ j → j < n → q j = true) ∧ evL (JW F d lk) d p (st i) = some (.exit id e)) ∨ ((∃ j, i ≤ j ∧ j < n ∧ q j = false) ∧ evL (JW F d lk) d p (st i) = some (.ret rt)) := by
  intro i hi
  obtain ⟨k, rfl⟩ : ∃ k, n = i + k := ⟨n - i, by omega⟩
  induction k generalizing i with
  | zero => exact .inl ⟨fun j h1 h2 => by omega, evL_end hend rfl⟩
  | succ k ih =>
    cases hq : q i with
    | false => exact .inr ⟨⟨i, Nat.le_refl _, by omega, hq⟩, evL_end (hno i (by omega) hq) rfl⟩
    | true =>
      have h1 := hgo i (by omega) hq
      have e1 : i + (k + 1) = (i + 1) + k := by omega
      rw [e1] at hgo hno hend ⊢
      rcases ih (i + 1) hgo hno hend (by omega) with ⟨h2, h3⟩ | ⟨⟨j, h2, h4, h5⟩, h3⟩
      · refine .inl ⟨fun j hj1 hj2 => ?_, evL_go h1 h3⟩
        by_cases hji : j = i
        · subst hji; exact hq
        · exact h2 j (by omega) hj2
      · exact .inr ⟨⟨j, by omega, h4, h5⟩, evL_go h1 h3⟩
/-- The first of so many. -/
theorem loop_find {n id : Nat} {st : Nat → Sl} {q : Nat → Bool} {rt : Nat → Sl} {e : Sl}
    (hgo : ∀ i, i < n → q i = false → evP F (W F) (JW F d lk) d lk p (st i) = some (.norm (st (i + 1))))
    (hno : ∀ i, i < n → q i = true → evP F (W F) (JW F d lk) d lk p (st i) = some (.ret (rt i)))
    (hend : evP F (W F) (JW F d lk) d lk p (st n) = some (.exit id e)) :
    ∀ i, i ≤ n → ((∀ j, i ≤ j → j < n → q j = false) ∧ evL (JW F d lk) d p (st i) = some (.exit id e)) ∨ (∃ j, i ≤ j ∧ j < n ∧ q j = true ∧ (∀ k, i ≤ k → k < j → q k = false) ∧ evL (JW F d lk) d p (st i) = some (.ret (rt j))) := by
  intro i hi
  obtain ⟨k, rfl⟩ : ∃ k, n = i + k := ⟨n - i, by omega⟩
  induction k generalizing i with
  | zero => exact .inl ⟨fun j h1 h2 => by omega, evL_end hend rfl⟩
  | succ k ih =>
    cases hq : q i with
    | true => exact .inr ⟨i, Nat.le_refl _, by omega, hq, fun k h1 h2 => by omega, evL_end (hno i (by omega) hq) rfl⟩
    | false =>
      have h1 := hgo i (by omega) hq
      have e1 : i + (k + 1) = (i + 1) + k := by omega
      rw [e1] at hgo hno hend ⊢
      rcases ih (i + 1) hgo hno hend (by omega) with ⟨h2, h3⟩ | ⟨j, h2, h4, h5, h6, h3⟩
      · refine .inl ⟨fun j hj1 hj2 => ?_, evL_go h1 h3⟩
        by_cases hji : j = i
        · subst hji; exact hq
        · exact h2 j (by omega) hj2
      · refine .inr ⟨j, by omega, h4, h5, fun k h7 h8 => ?_, evL_go h1 h3⟩
        by_cases hki : k = i
        · subst hki; exact hq
        · exact h6 k (by omega) h8
/-- One behind the other. -/
def upTo {α : Type} (f : Nat → α → α) : Nat → Nat → α → α
  | 0, _, a => a
  | k + 1, i, a => upTo f k (i + 1) (f i a)
theorem loop_fold {α : Type} {n id : Nat} {st : Nat → α → Sl} {f : Nat → α → α} {I : Nat → α → Prop} {e : α → Sl}
    (hgo : ∀ i a, i < n → I i a → evP F (W F) (JW F d lk) d lk p (st i a) = some (.norm (st (i + 1) (f i a))) ∧ I (i + 1) (f i a))
    (hend : ∀ a, I n a → evP F (W F) (JW F d lk) d lk p (st n a) = some (.exit id (e a))) :
    ∀ i a, i ≤ n → I i a → evL (JW F d lk) d p (st i a) = some (.exit id (e (upTo f (n - i) i a))) ∧ I n (upTo f (n - i) i a) := by
  intro i a hi
  obtain ⟨k, rfl⟩ : ∃ k, n = i + k := ⟨n - i, by omega⟩
  induction k generalizing i a with
  | zero =>
    intro hI
    rw [Nat.add_zero, Nat.sub_self]
    exact ⟨evL_end (hend a hI) rfl, hI⟩
  | succ k ih =>
    intro hI
    obtain ⟨h1, h2⟩ := hgo i a (by omega) hI
    have e1 : i + (k + 1) = (i + 1) + k := by omega
    rw [e1] at hgo hend ⊢
    have h3 := ih (i + 1) (f i a) hgo hend (by omega) h2
    rw [show i + 1 + k - (i + 1) = k by omega] at h3
    rw [show i + 1 + k - i = k + 1 by omega]
    exact ⟨evL_go h1 h3.1, h3.2⟩
/-! The same, for the block of a loop. -/
abbrev lpE (id : Nat) : Out → Out := blkO id
theorem blk_rule {α : Type} {p0 : List Nat} (id : Nat) (hc : Code.piece p0 d.body = .block id (.loop (Code.piece p d.body))) (st : α → Sl) (I : α → Prop) (μ : α → Nat) (post : α → Out → Prop)
    (step : ∀ x, I x → (∃ x', evP F (W F) (JW F d lk) d lk p (st x) = some (.norm (st x')) ∧ I x' ∧ μ x' < μ x ∧ ∀ o, post x' o → post x o) ∨ ∃ o, evP F (W F) (JW F d lk) d lk p (st x) = some o ∧ o.isNorm = false ∧ post x (blkO id o)) :
    ∀ x, I x → ∃ o, evP F (W F) (JW F d lk) d lk p0 (st x) = some o ∧ post x o := by
  intro x hx
  obtain ⟨o, h1, h2⟩ := loop_rule st I μ (fun x o => post x (blkO id o)) (fun x hi => by
    rcases step x hi with ⟨x', h1, h2, h3, h4⟩ | ⟨o, h1, h2, h3⟩
    · exact .inl ⟨x', h1, h2, h3, fun o h => h4 _ h⟩
    · exact .inr ⟨o, h1, h2, h3⟩) x hx
  exact ⟨_, evL_at hc h1 rfl, h2⟩
theorem blk_all {p0 : List Nat} {id : Nat} (hc : Code.piece p0 d.body = .block id (.loop (Code.piece p d.body))) {n : Nat} {st : Nat → Sl} {q : Nat → Bool} {rt : Sl} {e : Sl}
    (hgo : ∀ i, i < n → q i = true → evP F (W F) (JW F d lk) d lk p (st i) = some (.norm (st (i + 1))))
    (hno : ∀ i, i < n → q i = false → evP F (W F) (JW F d lk) d lk p (st i) = some (.ret rt))
    (hend : evP F (W F) (JW F d lk) d lk p (st n) = some (.exit id e)) (i : Nat) (hi : i ≤ n) :
    ((∀ j, i ≤ j → j < n → q j = true) ∧ evP F (W F) (JW F d lk) d lk p0 (st i) = some (.norm e)) ∨ ((∃ j, i ≤ j ∧ j < n ∧ q j = false) ∧ evP F (W F) (JW F d lk) d lk p0 (st i) = some (.ret rt)) := by
  rcases loop_all hgo hno hend i hi with ⟨h1, h2⟩ | ⟨h1, h2⟩
  · exact .inl ⟨h1, evL_at hc h2 (by simp [blkO])⟩
  · exact .inr ⟨h1, evL_at hc h2 rfl⟩
theorem blk_find {p0 : List Nat} {id : Nat} (hc : Code.piece p0 d.body = .block id (.loop (Code.piece p d.body))) {n : Nat} {st : Nat → Sl} {q : Nat → Bool} {rt : Nat → Sl} {e : Sl}
    (hgo : ∀ i, i < n → q i = false → evP F (W F) (JW F d lk) d lk p (st i) = some (.norm (st (i + 1))))
    (hno : ∀ i, i < n → q i = true → evP F (W F) (JW F d lk) d lk p (st i) = some (.ret (rt i)))
    (hend : evP F (W F) (JW F d lk) d lk p (st n) = some (.exit id e)) (i : Nat) (hi : i ≤ n) :
    ((∀ j, i ≤ j → j < n → q j = false) ∧ evP F (W F) (JW F d lk) d lk p0 (st i) = some (.norm e)) ∨ (∃ j, i ≤ j ∧ j < n ∧ q j = true ∧ (∀ k, i ≤ k → k < j → q k = false) ∧ evP F (W F) (JW F d lk) d lk p0 (st i) = some (.ret (rt j))) := by
  rcases loop_find hgo hno hend i hi with ⟨h1, h2⟩ | ⟨j, h1, h2, h3, h4, h5⟩
  · exact .inl ⟨h1, evL_at hc h2 (by simp [blkO])⟩
  · exact .inr ⟨j, h1, h2, h3, h4, evL_at hc h5 rfl⟩
theorem blk_fold {p0 : List Nat} {id : Nat} (hc : Code.piece p0 d.body = .block id (.loop (Code.piece p d.body))) {α : Type} {n : Nat} {st : Nat → α → Sl} {f : Nat → α → α} {I : Nat → α → Prop} {e : α → Sl}
    (hgo : ∀ i a, i < n → I i a → evP F (W F) (JW F d lk) d lk p (st i a) = some (.norm (st (i + 1) (f i a))) ∧ I (i + 1) (f i a))
    (hend : ∀ a, I n a → evP F (W F) (JW F d lk) d lk p (st n a) = some (.exit id (e a))) (i : Nat) (a : α) (hi : i ≤ n) (hI : I i a) :
    evP F (W F) (JW F d lk) d lk p0 (st i a) = some (.norm (e (upTo f (n - i) i a))) ∧ I n (upTo f (n - i) i a) := by
  have h := loop_fold hgo hend i a hi hI
  exact ⟨evL_at hc h.1 (by simp [blkO]), h.2⟩
/-! What a loop makes of how it stands, as a function. -/
def Turn (F : Fx) (d : FnD) (lk p : List Nat) (id : Nat) {α : Type} (st : α → Sl) (I : α → Prop) (μ : α → Nat) (res : α → Out) (x : α) : Prop :=
  (∃ x', evP F (W F) (JW F d lk) d lk p (st x) = some (.norm (st x')) ∧ I x' ∧ μ x' < μ x ∧ res x' = res x) ∨ ∃ o, evP F (W F) (JW F d lk) d lk p (st x) = some o ∧ o.isNorm = false ∧ blkO id o = res x
theorem Turn.go {id : Nat} {α : Type} {st : α → Sl} {I : α → Prop} {μ : α → Nat} {res : α → Out} {x : α} (x' : α) (h : evP F (W F) (JW F d lk) d lk p (st x) = some (.norm (st x'))) (hI : I x') (hm : μ x' < μ x) (hr : res x' = res x) : Turn F d lk p id st I μ res x := .inl ⟨x', h, hI, hm, hr⟩
theorem Turn.stop {id : Nat} {α : Type} {st : α → Sl} {I : α → Prop} {μ : α → Nat} {res : α → Out} {x : α} (o : Out) (h : evP F (W F) (JW F d lk) d lk p (st x) = some o) (hn : o.isNorm = false) (hr : blkO id o = res x) : Turn F d lk p id st I μ res x := .inr ⟨o, h, hn, hr⟩
theorem blk_fun {α : Type} {p0 : List Nat} {id : Nat} (hc : Code.piece p0 d.body = .block id (.loop (Code.piece p d.body))) {st : α → Sl} {I : α → Prop} {μ : α → Nat} {res : α → Out}
    (step : ∀ x, I x → Turn F d lk p id st I μ res x) (x : α) (hx : I x) : evP F (W F) (JW F d lk) d lk p0 (st x) = some (res x) := by
  obtain ⟨o, h1, rfl⟩ := blk_rule (F := F) (d := d) (lk := lk) (p := p) id hc st I μ (fun x o => o = res x) (fun x hi => by
    rcases step x hi with ⟨x', h1, h2, h3, h4⟩ | ⟨o, h1, h2, h3⟩
    · exact .inl ⟨x', h1, h2, h3, fun o h => h.trans h4⟩
    · exact .inr ⟨o, h1, h2, h3⟩) x hx
  exact h1
def LTurn (F : Fx) (d : FnD) (lk p : List Nat) {α : Type} (lb : α → Nat) (st : α → Sl) (I : α → Prop) (μ : α → Nat) (res : α → Out) (x : α) : Prop :=
  (∃ x', evR F (W F) (JW F d lk) d lk p (lb x) (st x) = some (.goto (lb x') (st x')) ∧ I x' ∧ μ x' < μ x ∧ res x' = res x) ∨ ∃ o, evR F (W F) (JW F d lk) d lk p (lb x) (st x) = some o ∧ o.isGoto = false ∧ o = res x
theorem LTurn.go {α : Type} {lb : α → Nat} {st : α → Sl} {I : α → Prop} {μ : α → Nat} {res : α → Out} {x : α} (x' : α) (h : evR F (W F) (JW F d lk) d lk p (lb x) (st x) = some (.goto (lb x') (st x'))) (hI : I x') (hm : μ x' < μ x) (hr : res x' = res x) : LTurn F d lk p lb st I μ res x := .inl ⟨x', h, hI, hm, hr⟩
theorem LTurn.stop {α : Type} {lb : α → Nat} {st : α → Sl} {I : α → Prop} {μ : α → Nat} {res : α → Out} {x : α} (o : Out) (h : evR F (W F) (JW F d lk) d lk p (lb x) (st x) = some o) (hn : o.isGoto = false) (hr : o = res x) : LTurn F d lk p lb st I μ res x := .inr ⟨o, h, hn, hr⟩
theorem label_fun {α : Type} {lb : α → Nat} {st : α → Sl} {I : α → Prop} {μ : α → Nat} {res : α → Out} (hl : ∀ x, I x → (findLabel (Code.piece p d.body) (lb x)).isSome = true)
    (step : ∀ x, I x → LTurn F d lk p lb st I μ res x) (x : α) (hx : I x) : evG (JW F d lk) d p (lb x) (st x) = some (res x) := by
  obtain ⟨o, h1, rfl⟩ := label_rule (F := F) (d := d) (lk := lk) (p := p) lb st I μ (fun x o => o = res x) hl (fun x hi => by
    rcases step x hi with ⟨x', h1, h2, h3, h4⟩ | ⟨o, h1, h2, h3⟩
    · exact .inl ⟨x', h1, h2, h3, fun o h => h.trans h4⟩
    · exact .inr ⟨o, h1, h2, h3⟩) x hx
  exact h1
end
end Go.Ab

/- Written by a program of this session (wip/tools/AbSym.lean). Not trusted: Lean checks it. -/
set_option maxRecDepth 100000
set_option linter.unusedVariables false
namespace Go.Proofs.YtckhlalpnginjaaDoor.Ab
open Go Go.Ab Go.Proofs
def k3 : Keep := assoc [] [(0, [0, 2, 4]), (1, [0, 2, 4, 7]), (2, [0, 2, 4, 7, 8, 9]), (3, [0, 2, 4, 7, 8, 9, 10, 11]), (4, [0, 2, 4, 7, 8, 9, 10, 11, 12, 13]), (5, [0, 4, 7, 8, 9, 10, 11, 12, 13, 14, 15]), (6, [6])]
noncomputable def d3 : FnD := ⟨86, [.tmp 6], Tryd.f3.body.getD .skip, k3, false, []⟩
def k4 : Keep := assoc [] [(0, [0, 2, 4]), (1, [0, 2, 4, 7]), (2, [0, 2, 4, 7, 8, 9, 10]), (3, [0, 2, 4, 7, 8, 9, 10, 11, 12, 13]), (4, [0, 2, 4, 7, 8, 9, 10, 11, 12, 13, 14, 15, 16]), (5, [4, 7, 8, 9, 10, 11, 12, 13, 14, 15, 16, 17, 18, 19]), (6, [4, 7, 8, 14, 85]), (7, [6]), (8, [4, 7, 14]), (9, [4, 7]), (10, [6])]
noncomputable def d4 : FnD := ⟨96, [.tmp 6], Tryd.f4.body.getD .skip, k4, false, []⟩
def k5 : Keep := assoc [] [(0, [0, 1, 2]), (1, [0, 1, 2, 24]), (2, [6]), (3, [0, 1, 2, 7]), (4, [0, 1, 2, 7, 29]), (5, [6]), (6, [0, 1, 2, 7, 8]), (7, [0, 1, 2, 7, 8, 9]), (8, [0, 1, 2, 7, 8, 9, 42]), (9, [0, 1, 2, 7, 8, 9]), (10, [0, 1, 2, 7, 8, 9, 10]), (11, [0, 1, 2, 7, 8, 9, 10, 11]), (12, [0, 1, 2, 7, 8, 9, 10, 11, 13]), (13, [0, 1, 2, 7, 8, 9, 10, 11, 70]), (14, [0, 1, 2, 7, 8, 9, 10, 11, 14, 15]), (15, [0, 1, 2, 7, 8, 9, 10, 11, 86]), (16, [6]), (17, [0, 1, 2, 7, 8, 9, 10, 11, 92]), (18, [0, 1, 2, 7, 8, 9, 10, 11, 16, 17, 18]), (19, [0, 1, 2, 7, 8, 9, 10, 11, 16, 17, 18, 107]), (20, [0, 1, 2, 7, 8, 9, 110]), (21, [6]), (22, [0, 1, 2, 7, 8, 9, 10, 16, 17, 119]), (23, [6]), (24, [0, 1, 2, 7, 8, 9, 10, 17]), (25, [0, 1, 2, 7, 8, 9, 10, 121]), (26, [0, 1, 2, 7, 8, 9]), (27, [0, 1, 2, 7, 8, 9, 11, 19, 20, 21]), (28, [0, 1, 2, 7, 8, 9, 11, 19, 20, 143]), (29, [6]), (30, [0, 1, 2, 7, 8, 9, 11, 20]), (31, [0, 1, 2, 7, 8, 9, 11, 145]), (32, [0, 1, 2, 7, 8, 9]), (33, [0, 1, 2, 7, 8, 9]), (34, [0, 7, 8, 165]), (35, [6]), (36, [0, 7, 8, 22]), (37, [0, 7, 8, 22, 169]), (38, [0, 7, 8, 22]), (39, [0, 7, 8, 22, 180]), (40, [6]), (41, [6])]
noncomputable def d5 : FnD := ⟨184, [.tmp 6], Tryd.f5.body.getD .skip, k5, false, [(8, .own 23), (3000007, .no)]⟩
def k6 : Keep := assoc [] [(0, [0, 2, 4]), (1, [0, 2, 4, 19]), (2, [6]), (3, [0, 2, 4, 7, 8, 9]), (4, [0, 2, 4, 7, 8, 34]), (5, [6]), (6, [0, 2, 4, 7, 10, 11]), (7, [0, 2, 4, 7, 10, 11, 12, 13, 14]), (8, [0, 4, 7, 10, 11, 12, 13, 14, 15, 16, 17]), (9, [6])]
noncomputable def d6 : FnD := ⟨105, [.tmp 6], Tryd.f6.body.getD .skip, k6, false, []⟩
def k7 : Keep := assoc [] [(0, [0, 2, 4]), (1, [0, 2, 4, 17]), (2, [6]), (3, [0, 2, 4, 27]), (4, [6]), (5, [0, 4, 7]), (6, [0, 4, 7, 8, 9, 10]), (7, [0, 4, 7, 8, 54]), (8, [6]), (9, [0, 4, 7, 8, 11]), (10, [0, 4, 7, 8, 11, 59]), (11, [0, 4, 7, 8, 11]), (12, [0, 4, 7, 8, 11, 12, 13]), (13, [0, 4, 7, 8, 11, 12, 13, 14, 15]), (14, [0, 4, 7, 8, 11, 102]), (15, [6]), (16, [6])]
noncomputable def d7 : FnD := ⟨111, [.tmp 6], Tryd.f7.body.getD .skip, k7, false, []⟩
def k8 : Keep := assoc [] [(0, [0, 2, 3, 5]), (1, [0, 2, 3, 5, 15]), (2, [8]), (3, [0, 2, 3, 5, 25]), (4, [8]), (5, [0, 2, 3, 5, 9]), (6, [0, 3, 5, 9, 10]), (7, [0, 5, 9, 10, 11]), (8, [0, 5, 9, 10, 11, 64]), (9, [8]), (10, [0, 5, 9]), (11, [0, 9, 13]), (12, [8])]
noncomputable def d8 : FnD := ⟨89, [.tmp 8], Tryd.f8.body.getD .skip, k8, false, []⟩
def k9 : Keep := assoc [] [(0, [1, 2]), (1, [2])]
noncomputable def d9 : FnD := ⟨10, [.cell 2 26], Tryd.f9.body.getD .skip, k9, false, []⟩
def k10 : Keep := assoc [] [(0, [0, 1]), (1, [1, 9]), (2, [4, 5]), (3, [4, 5])]
noncomputable def d10 : FnD := ⟨12, [.tmp 4, .tmp 5], Tryd.f10.body.getD .skip, k10, false, []⟩
def k11 : Keep := assoc [] [(0, [0, 1]), (1, [1, 9]), (2, [4, 5]), (3, [4, 5])]
noncomputable def d11 : FnD := ⟨12, [.tmp 4, .tmp 5], Tryd.f11.body.getD .skip, k11, false, []⟩
def k12 : Keep := assoc [] [(0, [0, 2, 4]), (1, [2, 4, 17]), (2, [6, 7]), (3, [6, 7])]
noncomputable def d12 : FnD := ⟨22, [.tmp 6, .tmp 7], Tryd.f12.body.getD .skip, k12, false, []⟩
def k13 : Keep := assoc [] [(0, [0, 2, 4]), (1, [2, 4, 17]), (2, [6, 7]), (3, [6, 7])]
noncomputable def d13 : FnD := ⟨22, [.tmp 6, .tmp 7], Tryd.f13.body.getD .skip, k13, false, []⟩
def k14 : Keep := assoc [] [(0, [0, 3]), (1, [0, 3, 33]), (2, [4]), (3, [0, 3, 35, 36, 37]), (4, [0, 3, 35, 36, 37, 38]), (5, [0, 3, 6, 35, 36, 37]), (6, [0, 3, 35, 36, 37, 44]), (7, [4]), (8, [0, 3, 35, 36, 37]), (9, [3, 47, 48, 49]), (10, [3, 47, 48, 49, 50]), (11, [3, 7, 8, 47, 48, 49]), (12, [3, 7, 9, 47, 48, 49]), (13, [3, 47, 48, 49, 67]), (14, [4]), (15, [3, 47, 48, 49]), (16, [4])]
noncomputable def d14 : FnD := ⟨69, [.tmp 4], Tryd.f14.body.getD .skip, k14, false, []⟩
def k15 : Keep := assoc [] [(0, [0, 3]), (1, [0, 3, 24]), (2, [4]), (3, [0, 3, 5]), (4, [0, 3, 5, 6]), (5, [0, 3, 5, 6, 29]), (6, [0, 3, 5, 6]), (7, [0, 3, 5, 6, 48]), (8, [4]), (9, [0, 3, 5, 6, 54]), (10, [0, 3, 5, 6]), (11, [0, 3, 61]), (12, [4]), (13, [0, 3, 7]), (14, [0, 3, 7, 66]), (15, [0, 3, 7]), (16, [0, 3, 7, 8]), (17, [0, 3, 7, 8, 94]), (18, [4]), (19, [0, 3, 7, 8, 9]), (20, [0, 3, 7, 8, 9, 104]), (21, [0, 3, 7, 8, 9]), (22, [0, 3, 7, 8, 9, 113]), (23, [4]), (24, [4])]
noncomputable def d15 : FnD := ⟨114, [.tmp 4], Tryd.f15.body.getD .skip, k15, false, []⟩
def k16 : Keep := assoc [] [(0, [0]), (1, [2])]
noncomputable def d16 : FnD := ⟨4, [.tmp 2], Tryd.f16.body.getD .skip, k16, false, []⟩
def k17 : Keep := assoc [] [(0, [2, 3]), (1, [4])]
noncomputable def d17 : FnD := ⟨17, [.tmp 4], Tryd.f17.body.getD .skip, k17, false, []⟩
def k18 : Keep := assoc [] [(0, [0]), (1, [0, 1]), (2, [0, 1, 7, 8]), (3, [0, 1, 7, 8, 9]), (4, [0, 1, 2, 7, 8]), (5, [0, 1, 7, 8]), (6, [0, 1, 7, 8]), (7, [0])]
noncomputable def d18 : FnD := ⟨17, [.cell 0 26], Tryd.f18.body.getD .skip, k18, false, []⟩
def k19 : Keep := assoc [] [(0, [0]), (1, [0, 1]), (2, [0, 1, 2]), (3, [0, 1, 2, 4]), (4, [0, 1, 2]), (5, [0, 1, 2]), (6, [0])]
noncomputable def d19 : FnD := ⟨13, [.cell 0 26], Tryd.f19.body.getD .skip, k19, false, [(0, .agg [.own 3, .no]), (1, .agg [.own 3, .no])]⟩
def k20 : Keep := assoc [] [(0, []), (1, [1]), (2, [1, 2, 3]), (3, [1, 2, 3, 4, 5, 6]), (4, [1, 2, 3, 4, 5, 6, 7, 8]), (5, [1, 2, 3, 4, 5, 6, 7, 8, 9, 10, 11]), (6, [1, 2, 3, 4, 5, 6, 7, 8, 9, 10, 11, 12, 13]), (7, [1, 2, 3, 4, 5, 6, 7, 8, 9, 10, 11, 12, 13, 16]), (8, [0])]
noncomputable def d20 : FnD := ⟨129, [.tmp 0], Tryd.f20.body.getD .skip, k20, false, []⟩
def k21 : Keep := assoc [] [(0, [0, 2, 4, 6]), (1, [2, 4, 6, 9, 10]), (2, [2, 4, 6, 9, 10, 20]), (3, [6, 7, 8]), (4, [2, 4, 6, 25]), (5, [6, 7, 8]), (6, [2, 4, 6, 29]), (7, [6, 7, 8]), (8, [2, 6, 11]), (9, [2, 6, 11]), (10, [6, 11, 12]), (11, [6, 11, 12, 52]), (12, [6, 11, 12]), (13, [6, 11]), (14, [6, 7, 8])]
noncomputable def d21 : FnD := ⟨65, [.cell 6 26, .tmp 7, .tmp 8], Tryd.f21.body.getD .skip, k21, false, [(6, .agg [.own 3, .own 23])]⟩
def k22 : Keep := assoc [] [(0, [0, 2, 4, 6]), (1, [2, 4, 6, 20]), (2, [6, 7, 8]), (3, [2, 4, 6, 9]), (4, [2, 4, 6, 9, 27]), (5, [6, 7, 8]), (6, [2, 6, 9, 32]), (7, [6, 7, 8]), (8, [2, 6, 9, 10]), (9, [2, 6, 9, 10, 42]), (10, [2, 6, 9, 10]), (11, [2, 6, 9]), (12, [6, 9]), (13, [6, 7, 8])]
noncomputable def d22 : FnD := ⟨62, [.cell 6 26, .tmp 7, .tmp 8], Tryd.f22.body.getD .skip, k22, false, [(6, .agg [.own 3, .own 23])]⟩
def k23 : Keep := assoc [] [(0, [0, 2, 4, 6]), (1, [2, 4, 6, 9, 10]), (2, [2, 4, 6, 9, 10, 22]), (3, [6, 7, 8]), (4, [2, 4, 6, 27]), (5, [6, 7, 8]), (6, [2, 6, 11]), (7, [6, 11, 12, 13]), (8, [6, 11, 12, 13, 14]), (9, [6, 11, 13, 14]), (10, [6, 11, 13, 14, 52]), (11, [6, 11, 13, 14]), (12, [6, 11, 13]), (13, [6, 11]), (14, [6, 7, 8])]
noncomputable def d23 : FnD := ⟨77, [.cell 6 26, .tmp 7, .tmp 8], Tryd.f23.body.getD .skip, k23, false, [(6, .agg [.own 3, .no])]⟩
def k24 : Keep := assoc [] [(0, [0, 2, 4, 6]), (1, [2, 4, 6, 23]), (2, [6, 7, 8]), (3, [2, 4, 6, 9]), (4, [4, 6, 9, 10]), (5, [4, 6, 9, 10, 31]), (6, [6, 7, 8]), (7, [4, 6, 9, 10, 11]), (8, [6, 9, 10, 11, 12, 13]), (9, [6, 9, 10, 11, 13]), (10, [6, 9, 10, 11]), (11, [6, 9, 11]), (12, [6, 9]), (13, [6, 7, 8])]
noncomputable def d24 : FnD := ⟨67, [.cell 6 26, .tmp 7, .tmp 8], Tryd.f24.body.getD .skip, k24, false, [(6, .agg [.own 3, .own 23])]⟩
def k25 : Keep := assoc [] [(0, [1]), (1, [1]), (2, [])]
noncomputable def d25 : FnD := ⟨8, [], Tryd.f25.body.getD .skip, k25, false, []⟩
def k26 : Keep := assoc [] [(0, [0, 1]), (1, [0, 1, 5]), (2, [0, 1, 5, 9]), (3, [0, 1, 5]), (4, [0, 1, 5, 17]), (5, [4]), (6, [4])]
noncomputable def d26 : FnD := ⟨19, [.tmp 4], Tryd.f26.body.getD .skip, k26, false, []⟩
def k27 : Keep := assoc [] [(0, [0]), (1, [2])]
noncomputable def d27 : FnD := ⟨6, [.tmp 2], Tryd.f27.body.getD .skip, k27, false, []⟩
def k28 : Keep := assoc [] [(0, [0, 1]), (1, [0, 1, 10]), (2, [4]), (3, [0, 1, 5]), (4, [0, 1, 5, 14]), (5, [0, 1, 5]), (6, [0, 1, 5, 26]), (7, [4]), (8, [4])]
noncomputable def d28 : FnD := ⟨27, [.tmp 4], Tryd.f28.body.getD .skip, k28, false, []⟩
def k29 : Keep := assoc [] [(0, [0]), (1, [0, 3]), (2, [0, 3, 4]), (3, [0, 3, 4, 8]), (4, [0, 3, 4]), (5, [0, 3, 4]), (6, [2])]
noncomputable def d29 : FnD := ⟨20, [.tmp 2], Tryd.f29.body.getD .skip, k29, false, [(2, .own 23), (3, .own 23)]⟩
def k30 : Keep := assoc [] [(0, [0, 1]), (1, [4])]
noncomputable def d30 : FnD := ⟨17, [.tmp 4], Tryd.f30.body.getD .skip, k30, false, []⟩
def k31 : Keep := assoc [] [(0, [0]), (1, [0, 3]), (2, [3, 6, 7, 8]), (3, [3, 6, 7, 8, 9]), (4, [3, 5, 6, 7, 8]), (5, [3, 6, 7, 8]), (6, [3, 6, 7, 8]), (7, [2])]
noncomputable def d31 : FnD := ⟨20, [.tmp 2], Tryd.f31.body.getD .skip, k31, false, []⟩
def k32 : Keep := assoc [] [(0, [0, 1]), (1, [4])]
noncomputable def d32 : FnD := ⟨18, [.tmp 4], Tryd.f32.body.getD .skip, k32, false, []⟩
def k33 : Keep := assoc [] [(0, [0]), (1, [0, 3]), (2, [0, 3, 4]), (3, [0, 3, 4, 8]), (4, [0, 3, 4]), (5, [0, 3, 4]), (6, [2])]
noncomputable def d33 : FnD := ⟨21, [.tmp 2], Tryd.f33.body.getD .skip, k33, false, []⟩
def k34 : Keep := assoc [] [(0, [1, 2]), (1, [1, 2, 7]), (2, [1, 2, 7, 8]), (3, [1, 2, 5, 7]), (4, [1, 2, 6, 7]), (5, [1, 2, 6, 7, 15]), (6, [4]), (7, [1, 2, 6, 7, 22]), (8, [4]), (9, [1, 2, 7]), (10, [4])]
noncomputable def d34 : FnD := ⟨44, [.tmp 4], Tryd.f34.body.getD .skip, k34, false, []⟩
def k35 : Keep := assoc [] [(0, [1, 2]), (1, [1, 2, 5]), (2, [1, 2, 5, 10]), (3, [1, 2, 5]), (4, [1, 2, 5, 19]), (5, [4]), (6, [4])]
noncomputable def d35 : FnD := ⟨21, [.tmp 4], Tryd.f35.body.getD .skip, k35, false, []⟩
def k36 : Keep := assoc [] [(0, [0]), (1, [0, 18]), (2, [2]), (3, [0, 3]), (4, [0, 3, 22]), (5, [0, 3]), (6, [0, 3, 41]), (7, [2]), (8, [2])]
noncomputable def d36 : FnD := ⟨42, [.tmp 2], Tryd.f36.body.getD .skip, k36, false, []⟩
def k37 : Keep := assoc [] [(0, [0, 1]), (1, [0, 1, 5]), (2, [0, 1, 5, 6]), (3, [1, 5, 6, 11, 12, 13]), (4, [1, 5, 6, 11, 12, 13, 14]), (5, [1, 5, 6, 8, 11, 12, 13]), (6, [1, 5, 6, 8, 11, 12, 13, 17]), (7, [1, 5, 6, 8, 11, 12, 13, 24]), (8, [4]), (9, [1, 5, 6, 11, 12, 13]), (10, [1, 5, 6, 11, 12, 13]), (11, [1, 5, 6, 11, 12, 13]), (12, [4])]
noncomputable def d37 : FnD := ⟨47, [.tmp 4], Tryd.f37.body.getD .skip, k37, false, []⟩
def k38 : Keep := assoc [] [(0, [0]), (1, [0, 18]), (2, [2]), (3, [0, 3]), (4, [0, 3, 22]), (5, [0, 3]), (6, [0, 3, 41]), (7, [2]), (8, [2])]
noncomputable def d38 : FnD := ⟨42, [.tmp 2], Tryd.f38.body.getD .skip, k38, false, []⟩
def k39 : Keep := assoc [] [(0, [1, 2]), (1, [1, 2, 5]), (2, [1, 2, 5, 6]), (3, [1, 2, 5, 6, 11]), (4, [1, 2, 5, 6]), (5, [1, 2, 5, 6, 20]), (6, [1, 2, 5, 6]), (7, [4])]
noncomputable def d39 : FnD := ⟨23, [.tmp 4], Tryd.f39.body.getD .skip, k39, false, []⟩
def k40 : Keep := assoc [] [(0, [0, 1]), (1, [0, 1, 10]), (2, [4]), (3, [0, 1, 5]), (4, [0, 1, 5, 14]), (5, [0, 1, 5]), (6, [0, 1, 5, 25]), (7, [4]), (8, [4])]
noncomputable def d40 : FnD := ⟨26, [.tmp 4], Tryd.f40.body.getD .skip, k40, false, []⟩
def k41 : Keep := assoc [] [(0, []), (1, [0])]
noncomputable def d41 : FnD := ⟨9, [.tmp 0], Tryd.f41.body.getD .skip, k41, false, []⟩
def k42 : Keep := assoc [] [(0, [1, 2]), (1, [1, 2, 3]), (2, [2, 3, 11, 12, 13]), (3, [2, 3, 11, 12, 13, 14]), (4, [2, 3, 5, 11, 12, 13]), (5, [2, 3, 11, 12, 13]), (6, [2, 3, 11, 12, 13]), (7, [2])]
noncomputable def d42 : FnD := ⟨26, [.cell 2 26], Tryd.f42.body.getD .skip, k42, false, [(2, .agg [.no, .own 23]), (3, .agg [.no, .own 23])]⟩
def k43 : Keep := assoc [] [(0, [0]), (1, [0, 4]), (2, [2]), (3, [2])]
noncomputable def d43 : FnD := ⟨8, [.tmp 2], Tryd.f43.body.getD .skip, k43, false, [(2, .own 3)]⟩
def k44 : Keep := assoc [] [(0, [1, 2]), (1, [1, 2, 3]), (2, [1, 2, 3, 4]), (3, [1, 2, 3, 4, 14]), (4, [1, 2, 3, 4]), (5, [1, 2, 3, 4]), (6, [2])]
noncomputable def d44 : FnD := ⟨30, [.cell 2 26], Tryd.f44.body.getD .skip, k44, false, [(2, .agg [.no, .own 23]), (3, .agg [.no, .own 23])]⟩
def k45 : Keep := assoc [] [(0, [0, 1]), (1, [0, 1, 7, 8]), (2, [0, 1, 7, 8, 9]), (3, [0, 1, 5, 7, 8]), (4, [0, 1, 5, 7, 8, 16]), (5, [4]), (6, [0, 1, 7, 8]), (7, [4])]
noncomputable def d45 : FnD := ⟨19, [.tmp 4], Tryd.f45.body.getD .skip, k45, false, []⟩
def k46 : Keep := assoc [] [(0, [0, 2]), (1, [0, 2, 6]), (2, [0, 2]), (3, [0, 2])]
noncomputable def d46 : FnD := ⟨18, [], Tryd.f46.body.getD .skip, k46, false, []⟩
def k47 : Keep := assoc [] [(0, [0, 2]), (1, [0, 2, 6]), (2, [0, 2]), (3, [0, 2])]
noncomputable def d47 : FnD := ⟨14, [], Tryd.f47.body.getD .skip, k47, false, []⟩
def k48 : Keep := assoc [] [(0, [0, 1]), (1, [0, 1, 33]), (2, [4]), (3, [0, 1, 5, 6]), (4, [4])]
noncomputable def d48 : FnD := ⟨54, [.tmp 4], Tryd.f48.body.getD .skip, k48, false, []⟩
def k49 : Keep := assoc [] [(0, [0]), (1, [0, 7]), (2, [0]), (3, [0, 3]), (4, [0, 3, 4]), (5, [0, 3, 4, 15]), (6, [0, 3, 4]), (7, [0, 3, 4]), (8, [2])]
noncomputable def d49 : FnD := ⟨25, [.tmp 2], Tryd.f49.body.getD .skip, k49, false, []⟩
def k50 : Keep := assoc [] [(0, [0, 1]), (1, [4])]
noncomputable def d50 : FnD := ⟨46, [.tmp 4], Tryd.f50.body.getD .skip, k50, false, []⟩
def k51 : Keep := assoc [] [(0, [0]), (1, [0, 3]), (2, [0, 3, 4]), (3, [0, 3, 4, 6]), (4, [0, 3, 4]), (5, [0, 3, 4, 11]), (6, [0, 3, 4]), (7, [2])]
noncomputable def d51 : FnD := ⟨17, [.tmp 2], Tryd.f51.body.getD .skip, k51, false, [(2, .own 3), (3, .own 3)]⟩
def k52 : Keep := assoc [] [(0, [0, 1]), (1, [0, 1, 10]), (2, [4]), (3, [0, 1, 12, 13]), (4, [0, 1, 12, 13, 14]), (5, [0, 1, 5, 12, 13]), (6, [0, 1, 12, 13, 24]), (7, [4]), (8, [0, 1, 12, 13]), (9, [4])]
noncomputable def d52 : FnD := ⟨26, [.tmp 4], Tryd.f52.body.getD .skip, k52, false, []⟩
def k53 : Keep := assoc [] [(0, [0, 1]), (1, [0, 1, 10]), (2, [4]), (3, [0, 1, 5]), (4, [0, 1, 5, 14]), (5, [0, 1, 5]), (6, [0, 1, 5, 25]), (7, [4]), (8, [4])]
noncomputable def d53 : FnD := ⟨26, [.tmp 4], Tryd.f53.body.getD .skip, k53, false, []⟩
def k54 : Keep := assoc [] [(0, [1]), (1, [2])]
noncomputable def d54 : FnD := ⟨36, [.tmp 2], Tryd.f54.body.getD .skip, k54, false, []⟩
def k55 : Keep := assoc [] [(0, [0, 1]), (1, [0, 1, 7, 8]), (2, [0, 1, 7, 8, 9]), (3, [0, 1, 5, 7, 8]), (4, [0, 1, 5, 7, 8, 17]), (5, [4]), (6, [0, 1, 7, 8]), (7, [4])]
noncomputable def d55 : FnD := ⟨20, [.tmp 4], Tryd.f55.body.getD .skip, k55, false, []⟩
def k56 : Keep := assoc [] [(0, [1]), (1, [1, 20]), (2, [2]), (3, [1, 3]), (4, [1, 3, 25]), (5, [1, 3]), (6, [1, 3, 47]), (7, [2]), (8, [2])]
noncomputable def d56 : FnD := ⟨76, [.tmp 2], Tryd.f56.body.getD .skip, k56, false, []⟩
def k57 : Keep := assoc [] [(0, [0, 1]), (1, [0, 1, 5]), (2, [0, 1, 5, 9]), (3, [0, 1, 5]), (4, [0, 1, 5, 18]), (5, [4]), (6, [4])]
noncomputable def d57 : FnD := ⟨20, [.tmp 4], Tryd.f57.body.getD .skip, k57, false, []⟩
def k58 : Keep := assoc [] [(0, [0, 1]), (1, [0, 1, 17]), (2, [4, 5]), (3, [0, 1, 6]), (4, [0, 1, 6, 7]), (5, [0, 1, 6, 7, 21]), (6, [4, 5]), (7, [0, 1, 6, 7, 8, 9]), (8, [0, 1, 6, 7, 8, 31]), (9, [4, 5]), (10, [0, 1, 6, 8]), (11, [0, 1, 6, 7])]
noncomputable def d58 : FnD := ⟨37, [.tmp 4, .tmp 5], Tryd.f58.body.getD .skip, k58, false, [(4, .own 3)]⟩
def k59 : Keep := assoc [] [(0, [0, 1]), (1, [0, 1, 9]), (2, [4]), (3, [0, 1, 5, 6]), (4, [0, 1, 5, 6, 13]), (5, [0, 1, 5, 6]), (6, [0, 1, 5, 6, 19]), (7, [4]), (8, [0, 1, 5, 6]), (9, [4])]
noncomputable def d59 : FnD := ⟨23, [.tmp 4], Tryd.f59.body.getD .skip, k59, false, []⟩
def k60 : Keep := assoc [] [(0, [0, 1]), (1, [0, 1, 5]), (2, [0, 1, 5, 9]), (3, [0, 1, 5]), (4, [0, 1, 5, 18]), (5, [4]), (6, [4])]
noncomputable def d60 : FnD := ⟨19, [.tmp 4], Tryd.f60.body.getD .skip, k60, false, []⟩
def k61 : Keep := assoc [] [(0, [0]), (1, [0, 16]), (2, [2]), (3, [0, 18, 19]), (4, [0, 18, 19, 20]), (5, [0, 3, 18, 19]), (6, [0, 18, 19, 38]), (7, [2]), (8, [0, 18, 19]), (9, [2])]
noncomputable def d61 : FnD := ⟨40, [.tmp 2], Tryd.f61.body.getD .skip, k61, false, []⟩
def k62 : Keep := assoc [] [(0, [0]), (1, [2])]
noncomputable def d62 : FnD := ⟨9, [.tmp 2], Tryd.f62.body.getD .skip, k62, false, []⟩
def k63 : Keep := assoc [] [(0, [0, 1, 2]), (1, [0, 1, 2, 8]), (2, [0, 1, 2, 8, 14]), (3, [6, 7]), (4, [0, 1, 2, 8, 9, 10]), (5, [0, 1, 2, 8, 9, 25]), (6, [6, 7]), (7, [0, 1, 2, 8, 9]), (8, [0, 1, 2, 8]), (9, [0, 1, 2, 8, 33]), (10, [6, 7])]
noncomputable def d63 : FnD := ⟨35, [.tmp 6, .tmp 7], Tryd.f63.body.getD .skip, k63, false, []⟩
def k64 : Keep := assoc [] [(0, [0, 1, 2]), (1, [0, 1, 7, 8]), (2, [0, 1, 7, 8, 11]), (3, [0, 1, 7, 8, 31]), (4, [6]), (5, [0, 1, 7, 8]), (6, [0, 1, 7, 8, 38]), (7, [0, 1, 7, 8, 47]), (8, [6]), (9, [0, 1, 7, 8]), (10, [0, 1, 7, 8]), (11, [6])]
noncomputable def d64 : FnD := ⟨61, [.tmp 6], Tryd.f64.body.getD .skip, k64, false, []⟩
def k65 : Keep := assoc [] [(0, [0]), (1, [2])]
noncomputable def d65 : FnD := ⟨9, [.tmp 2], Tryd.f65.body.getD .skip, k65, false, []⟩
def k66 : Keep := assoc [] [(0, [0, 1]), (1, [0, 1, 6]), (2, [4, 5]), (3, [0, 1, 12]), (4, [4, 5]), (5, [4, 5])]
noncomputable def d66 : FnD := ⟨30, [.tmp 4, .tmp 5], Tryd.f66.body.getD .skip, k66, false, []⟩
def k67 : Keep := assoc [] [(0, [0]), (1, [2])]
noncomputable def d67 : FnD := ⟨5, [.tmp 2], Tryd.f67.body.getD .skip, k67, false, []⟩
noncomputable def code : List (FuncId × FnD) := [(3, d3), (4, d4), (5, d5), (6, d6), (7, d7), (8, d8), (9, d9), (10, d10), (11, d11), (12, d12), (13, d13), (14, d14), (15, d15), (16, d16), (17, d17), (18, d18), (19, d19), (20, d20), (21, d21), (22, d22), (23, d23), (24, d24), (25, d25), (26, d26), (27, d27), (28, d28), (29, d29), (30, d30), (31, d31), (32, d32), (33, d33), (34, d34), (35, d35), (36, d36), (37, d37), (38, d38), (39, d39), (40, d40), (41, d41), (42, d42), (43, d43), (44, d44), (45, d45), (46, d46), (47, d47), (48, d48), (49, d49), (50, d50), (51, d51), (52, d52), (53, d53), (54, d54), (55, d55), (56, d56), (57, d57), (58, d58), (59, d59), (60, d60), (61, d61), (62, d62), (63, d63), (64, d64), (65, d65), (66, d66), (67, d67)]
theorem code_ok : CodeOk Tryd.prog code :=
  .cons Tryd.func3 ⟨rfl, rfl, rfl, by decide +kernel⟩ <|
  .cons Tryd.func4 ⟨rfl, rfl, rfl, by decide +kernel⟩ <|
  .cons Tryd.func5 ⟨rfl, rfl, rfl, by decide +kernel⟩ <|
  .cons Tryd.func6 ⟨rfl, rfl, rfl, by decide +kernel⟩ <|
  .cons Tryd.func7 ⟨rfl, rfl, rfl, by decide +kernel⟩ <|
  .cons Tryd.func8 ⟨rfl, rfl, rfl, by decide +kernel⟩ <|
  .cons Tryd.func9 ⟨rfl, rfl, rfl, by decide +kernel⟩ <|
  .cons Tryd.func10 ⟨rfl, rfl, rfl, by decide +kernel⟩ <|
  .cons Tryd.func11 ⟨rfl, rfl, rfl, by decide +kernel⟩ <|
  .cons Tryd.func12 ⟨rfl, rfl, rfl, by decide +kernel⟩ <|
  .cons Tryd.func13 ⟨rfl, rfl, rfl, by decide +kernel⟩ <|
  .cons Tryd.func14 ⟨rfl, rfl, rfl, by decide +kernel⟩ <|
  .cons Tryd.func15 ⟨rfl, rfl, rfl, by decide +kernel⟩ <|
  .cons Tryd.func16 ⟨rfl, rfl, rfl, by decide +kernel⟩ <|
  .cons Tryd.func17 ⟨rfl, rfl, rfl, by decide +kernel⟩ <|
  .cons Tryd.func18 ⟨rfl, rfl, rfl, by decide +kernel⟩ <|
  .cons Tryd.func19 ⟨rfl, rfl, rfl, by decide +kernel⟩ <|
  .cons Tryd.func20 ⟨rfl, rfl, rfl, by decide +kernel⟩ <|
  .cons Tryd.func21 ⟨rfl, rfl, rfl, by decide +kernel⟩ <|
  .cons Tryd.func22 ⟨rfl, rfl, rfl, by decide +kernel⟩ <|
  .cons Tryd.func23 ⟨rfl, rfl, rfl, by decide +kernel⟩ <|
  .cons Tryd.func24 ⟨rfl, rfl, rfl, by decide +kernel⟩ <|
  .cons Tryd.func25 ⟨rfl, rfl, rfl, by decide +kernel⟩ <|
  .cons Tryd.func26 ⟨rfl, rfl, rfl, by decide +kernel⟩ <|
  .cons Tryd.func27 ⟨rfl, rfl, rfl, by decide +kernel⟩ <|
  .cons Tryd.func28 ⟨rfl, rfl, rfl, by decide +kernel⟩ <|
  .cons Tryd.func29 ⟨rfl, rfl, rfl, by decide +kernel⟩ <|
  .cons Tryd.func30 ⟨rfl, rfl, rfl, by decide +kernel⟩ <|
  .cons Tryd.func31 ⟨rfl, rfl, rfl, by decide +kernel⟩ <|
  .cons Tryd.func32 ⟨rfl, rfl, rfl, by decide +kernel⟩ <|
  .cons Tryd.func33 ⟨rfl, rfl, rfl, by decide +kernel⟩ <|
  .cons Tryd.func34 ⟨rfl, rfl, rfl, by decide +kernel⟩ <|
  .cons Tryd.func35 ⟨rfl, rfl, rfl, by decide +kernel⟩ <|
  .cons Tryd.func36 ⟨rfl, rfl, rfl, by decide +kernel⟩ <|
  .cons Tryd.func37 ⟨rfl, rfl, rfl, by decide +kernel⟩ <|
  .cons Tryd.func38 ⟨rfl, rfl, rfl, by decide +kernel⟩ <|
  .cons Tryd.func39 ⟨rfl, rfl, rfl, by decide +kernel⟩ <|
  .cons Tryd.func40 ⟨rfl, rfl, rfl, by decide +kernel⟩ <|
  .cons Tryd.func41 ⟨rfl, rfl, rfl, by decide +kernel⟩ <|
  .cons Tryd.func42 ⟨rfl, rfl, rfl, by decide +kernel⟩ <|
  .cons Tryd.func43 ⟨rfl, rfl, rfl, by decide +kernel⟩ <|
  .cons Tryd.func44 ⟨rfl, rfl, rfl, by decide +kernel⟩ <|
  .cons Tryd.func45 ⟨rfl, rfl, rfl, by decide +kernel⟩ <|
  .cons Tryd.func46 ⟨rfl, rfl, rfl, by decide +kernel⟩ <|
  .cons Tryd.func47 ⟨rfl, rfl, rfl, by decide +kernel⟩ <|
  .cons Tryd.func48 ⟨rfl, rfl, rfl, by decide +kernel⟩ <|
  .cons Tryd.func49 ⟨rfl, rfl, rfl, by decide +kernel⟩ <|
  .cons Tryd.func50 ⟨rfl, rfl, rfl, by decide +kernel⟩ <|
  .cons Tryd.func51 ⟨rfl, rfl, rfl, by decide +kernel⟩ <|
  .cons Tryd.func52 ⟨rfl, rfl, rfl, by decide +kernel⟩ <|
  .cons Tryd.func53 ⟨rfl, rfl, rfl, by decide +kernel⟩ <|
  .cons Tryd.func54 ⟨rfl, rfl, rfl, by decide +kernel⟩ <|
  .cons Tryd.func55 ⟨rfl, rfl, rfl, by decide +kernel⟩ <|
  .cons Tryd.func56 ⟨rfl, rfl, rfl, by decide +kernel⟩ <|
  .cons Tryd.func57 ⟨rfl, rfl, rfl, by decide +kernel⟩ <|
  .cons Tryd.func58 ⟨rfl, rfl, rfl, by decide +kernel⟩ <|
  .cons Tryd.func59 ⟨rfl, rfl, rfl, by decide +kernel⟩ <|
  .cons Tryd.func60 ⟨rfl, rfl, rfl, by decide +kernel⟩ <|
  .cons Tryd.func61 ⟨rfl, rfl, rfl, by decide +kernel⟩ <|
  .cons Tryd.func62 ⟨rfl, rfl, rfl, by decide +kernel⟩ <|
  .cons Tryd.func63 ⟨rfl, rfl, rfl, by decide +kernel⟩ <|
  .cons Tryd.func64 ⟨rfl, rfl, rfl, by decide +kernel⟩ <|
  .cons Tryd.func65 ⟨rfl, rfl, rfl, by decide +kernel⟩ <|
  .cons Tryd.func66 ⟨rfl, rfl, rfl, by decide +kernel⟩ <|
  .cons Tryd.func67 ⟨rfl, rfl, rfl, by decide +kernel⟩ <|
  .nil _
def R : Rets := fun f => match f with
  | 5 => [(.d (.bool), [.any, .any, .any])]
  | 9 => [(.agg [.own 3 1, .own 23 1], [.any])]
  | 10 => [(.tup [.d (.int .i64), .d (.int .i64)], [.any, .any])]
  | 11 => [(.tup [.d (.int .i64), .d (.int .i64)], [.any, .any])]
  | 12 => [(.tup [.d (.bool), .d (.int .i64)], [.any, .any, .any])]
  | 13 => [(.tup [.d (.bool), .d (.int .i64)], [.any, .any, .any])]
  | 14 => [(.d (.bool), [.any, .any])]
  | 15 => [(.d (.bool), [.any, .any])]
  | 16 => [(.d (.int .i64), [.any])]
  | 17 => [(.d (.bool), [.any, .any])]
  | 18 => [(.agg [.own 3 1, .d (.nil 1)], [])]
  | 19 => [(.agg [.own 3 1, .d (.nil 1)], [])]
  | 20 => [(.d (.bool), [])]
  | 21 => [(.tup [.agg [.own 3 1, .own 23 1], .d (.bool), .d (.int .i64)], [.any, .any, .any])]
  | 22 => [(.tup [.agg [.own 3 1, .own 23 1], .d (.bool), .d (.int .i64)], [.any, .any, .any])]
  | 23 => [(.tup [.agg [.own 3 1, .d (.sl 1)], .d (.bool), .d (.int .i64)], [.any, .any, .any]), (.tup [.agg [.own 3 1, .own 23 1], .d (.bool), .d (.int .i64)], [.any, .any, .any])]
  | 24 => [(.tup [.agg [.own 3 1, .own 23 1], .d (.bool), .d (.int .i64)], [.any, .any, .any])]
  | 25 => [(.tup [], [.any])]
  | 26 => [(.d (.int .i64), [.any, .any])]
  | 27 => [(.own 3 1, [.any])]
  | 28 => [(.d (.bool), [.any, .any])]
  | 29 => [(.own 23 1, [.any])]
  | 30 => [(.d (.bool), [.any, .any])]
  | 31 => [(.d (.int .i64), [.any])]
  | 32 => [(.d (.bool), [.any, .any])]
  | 33 => [(.d (.int .i64), [.any])]
  | 34 => [(.d (.int .i64), [.any, .any])]
  | 35 => [(.d (.int .i64), [.any, .any])]
  | 36 => [(.d (.bool), [.any])]
  | 37 => [(.d (.bool), [.any, .any])]
  | 38 => [(.d (.bool), [.any])]
  | 39 => [(.d (.int .i64), [.any, .any])]
  | 40 => [(.d (.bool), [.any, .any])]
  | 41 => [(.own 68 4, [])]
  | 42 => [(.agg [.own 3 1, .own 23 1], [.any])]
  | 43 => [(.own 3 1, [.any])]
  | 44 => [(.agg [.own 3 1, .own 23 1], [.any])]
  | 45 => [(.d (.int .i64), [.any, .any])]
  | 46 => [(.tup [], [.any])]
  | 47 => [(.tup [], [.any])]
  | 48 => [(.d (.bool), [.any, .any])]
  | 49 => [(.d (.int .i64), [.any])]
  | 50 => [(.d (.bool), [.any, .any])]
  | 51 => [(.own 3 1, [.any])]
  | 52 => [(.d (.bool), [.any, .any])]
  | 53 => [(.d (.bool), [.any, .any])]
  | 54 => [(.d (.bool), [.any])]
  | 55 => [(.d (.int .i64), [.any, .any])]
  | 56 => [(.d (.bool), [.any])]
  | 57 => [(.d (.int .i64), [.any, .any])]
  | 58 => [(.tup [.own 3 1, .d (.bool)], [.any, .any])]
  | 59 => [(.d (.int .i64), [.any, .any])]
  | 60 => [(.d (.bool), [.any, .any])]
  | 61 => [(.d (.bool), [.any])]
  | 62 => [(.d (.bool), [.any])]
  | 63 => [(.tup [.d (.int .i64), .d (.bool)], [.any, .any, .any])]
  | 64 => [(.d (.int .i64), [.any, .any, .any])]
  | 65 => [(.d (.bool), [.any])]
  | 66 => [(.tup [.d (.int .i64), .d (.bool)], [.any, .any])]
  | 67 => [(.d (.int .i64), [.any])]
  | _ => [(.any, [])]
noncomputable def F : Fx := ⟨T, [(0, [.str "=".toUTF8, .int .i64 0, .int .i64 2, .int .i64 1])], codeOf code, fun _ => none⟩
def L5 : Lps := fun b => match b with
  | 0 => [.ret [(6, .d (.bool))], .norm [(0, .d (.sl 4)), (1, .d (.sl 1)), (2, .d (.sl 1)), (7, .ptr 26 0 [.d (.sl 1), .d (.sl 1)]), (8, .own 23 1), (9, .d (.int .i64))]]
  | 2 => [.ret [(6, .d (.bool))], .norm [(0, .d (.sl 4)), (7, .ptr 26 0 [.d (.sl 1), .d (.sl 1)]), (8, .own 23 1), (22, .d (.int .i64))]]
  | _ => [.norm []]
def L9 : Lps := fun b => match b with
  | _ => [.norm []]
def L10 : Lps := fun b => match b with
  | _ => [.norm []]
def L11 : Lps := fun b => match b with
  | _ => [.norm []]
def L12 : Lps := fun b => match b with
  | _ => [.norm []]
def L13 : Lps := fun b => match b with
  | _ => [.norm []]
def L14 : Lps := fun b => match b with
  | 0 => [.ret [(4, .d (.bool))], .norm [(0, .d (.sl 4)), (3, .dbox 26 0 [.sl 1, .sl 1]), (35, .d (.sl 1)), (36, .d (.int .i64)), (37, .d (.int .i64))]]
  | 2 => [.ret [(4, .d (.bool))], .norm [(3, .dbox 26 0 [.sl 1, .sl 1]), (47, .d (.sl 1)), (48, .d (.int .i64)), (49, .d (.int .i64))]]
  | _ => [.norm []]
def L15 : Lps := fun b => match b with
  | 0 => [.ret [(4, .d (.bool))], .norm [(0, .d (.sl 4)), (3, .dbox 26 0 [.sl 1, .sl 1]), (5, .d (.int .i64)), (6, .d (.int .i64))]]
  | 2 => [.ret [(4, .d (.bool))], .norm [(0, .d (.sl 4)), (3, .dbox 26 0 [.sl 1, .sl 1]), (7, .d (.int .i64))]]
  | 4 => [.ret [(4, .d (.bool))], .norm [(0, .d (.sl 4)), (3, .dbox 26 0 [.sl 1, .sl 1]), (7, .d (.int .i64)), (8, .d (.int .i64)), (9, .d (.int .i64))]]
  | _ => [.norm []]
def L16 : Lps := fun b => match b with
  | _ => [.norm []]
def L17 : Lps := fun b => match b with
  | _ => [.norm []]
def L18 : Lps := fun b => match b with
  | 0 => [.norm [(0, .dbox 26 0 [.nil 1, .nil 1]), (1, .ptr 26 0 [.own 3 1, .d (.nil 1)]), (7, .d (.int .i64)), (8, .d (.int .i64))]]
  | _ => [.norm []]
def L19 : Lps := fun b => match b with
  | 0 => [.norm [(0, .ptr 26 0 [.own 3 1, .d (.nil 1)]), (1, .ptr 26 0 [.own 3 1, .d (.nil 1)]), (2, .d (.int .i64))]]
  | _ => [.norm []]
def L21 : Lps := fun b => match b with
  | 1 => [.norm [(6, .ptr 26 0 [.own 3 1, .own 23 1]), (11, .ptr 26 0 [.own 3 1, .own 23 1]), (12, .d (.int .i64))]]
  | _ => [.norm []]
def L22 : Lps := fun b => match b with
  | 0 => [.norm [(2, .d (.sl 1)), (6, .ptr 26 0 [.own 3 1, .own 23 1]), (9, .ptr 26 0 [.own 3 1, .own 23 1]), (10, .d (.int .i64))]]
  | _ => [.norm []]
def L23 : Lps := fun b => match b with
  | _ => [.norm []]
def L24 : Lps := fun b => match b with
  | _ => [.norm []]
def L25 : Lps := fun b => match b with
  | _ => [.norm []]
def L26 : Lps := fun b => match b with
  | 0 => [.ret [(4, .d (.int .i64))], .norm [(0, .d (.sl 1)), (1, .d (.sl 1)), (5, .d (.int .i64))]]
  | _ => [.norm []]
def L27 : Lps := fun b => match b with
  | _ => [.norm []]
def L28 : Lps := fun b => match b with
  | 0 => [.ret [(4, .d (.bool))], .norm [(0, .d (.sl 1)), (1, .d (.sl 1)), (5, .d (.int .i64))]]
  | _ => [.norm []]
def L29 : Lps := fun b => match b with
  | 0 => [.norm [(0, .d (.sl 1)), (3, .own 23 1), (4, .d (.int .i64))]]
  | _ => [.norm []]
def L30 : Lps := fun b => match b with
  | _ => [.norm []]
def L31 : Lps := fun b => match b with
  | 0 => [.norm [(3, .d (.int .i64)), (6, .d (.sl 1)), (7, .d (.int .i64)), (8, .d (.int .i64))]]
  | _ => [.norm []]
def L32 : Lps := fun b => match b with
  | _ => [.norm []]
def L33 : Lps := fun b => match b with
  | 0 => [.norm [(0, .d (.sl 1)), (3, .d (.int .i64)), (4, .d (.int .i64))]]
  | _ => [.norm []]
def L34 : Lps := fun b => match b with
  | 0 => [.ret [(4, .d (.int .i64))], .norm [(1, .d (.sl 1)), (2, .dbox 26 0 [.sl 1, .sl 1]), (7, .d (.int .i64))]]
  | _ => [.norm []]
def L35 : Lps := fun b => match b with
  | 0 => [.ret [(4, .d (.int .i64))], .norm [(1, .d (.sl 1)), (2, .dbox 26 0 [.sl 1, .sl 1]), (5, .d (.int .i64))]]
  | _ => [.norm []]
def L36 : Lps := fun b => match b with
  | 0 => [.ret [(2, .d (.bool))], .norm [(0, .d (.sl 4)), (3, .d (.int .i64))]]
  | _ => [.norm []]
def L37 : Lps := fun b => match b with
  | 0 => [.ret [(4, .d (.bool))], .norm [(1, .d (.int .i64)), (5, .own 4 1), (6, .d (.int .i64)), (11, .d (.sl 1)), (12, .d (.int .i64)), (13, .d (.int .i64))]]
  | _ => [.norm []]
def L38 : Lps := fun b => match b with
  | 0 => [.ret [(2, .d (.bool))], .norm [(0, .d (.sl 4)), (3, .d (.int .i64))]]
  | _ => [.norm []]
def L39 : Lps := fun b => match b with
  | 0 => [.norm [(1, .d (.int .i64)), (2, .dbox 26 0 [.sl 1, .sl 1]), (5, .d (.int .i64)), (6, .d (.int .i64))]]
  | _ => [.norm []]
def L40 : Lps := fun b => match b with
  | 0 => [.ret [(4, .d (.bool))], .norm [(0, .d (.sl 1)), (1, .d (.sl 1)), (5, .d (.int .i64))]]
  | _ => [.norm []]
def L41 : Lps := fun b => match b with
  | _ => [.norm []]
def L42 : Lps := fun b => match b with
  | 0 => [.norm [(2, .ptr 26 0 [.d (.nil 1), .own 23 1]), (3, .ptr 26 0 [.own 3 1, .own 23 1]), (11, .d (.sl 1)), (12, .d (.int .i64)), (13, .d (.int .i64))]]
  | _ => [.norm []]
def L43 : Lps := fun b => match b with
  | _ => [.norm []]
def L44 : Lps := fun b => match b with
  | 0 => [.norm [(1, .dbox 26 0 [.sl 1, .sl 1]), (2, .ptr 26 0 [.d (.nil 1), .own 23 1]), (3, .ptr 26 0 [.own 3 1, .own 23 1]), (4, .d (.int .i64))]]
  | _ => [.norm []]
def L45 : Lps := fun b => match b with
  | 0 => [.ret [(4, .d (.int .i64))], .norm [(0, .d (.sl 1)), (1, .d (.int .i64)), (7, .d (.int .i64)), (8, .d (.int .i64))]]
  | _ => [.norm []]
def L46 : Lps := fun b => match b with
  | 0 => [.norm [(0, .d (.sl 1)), (2, .d (.int .i64))]]
  | _ => [.norm []]
def L47 : Lps := fun b => match b with
  | 0 => [.norm [(0, .d (.sl 1)), (2, .d (.int .i64))]]
  | _ => [.norm []]
def L48 : Lps := fun b => match b with
  | _ => [.norm []]
def L49 : Lps := fun b => match b with
  | 0 => [.norm [(0, .d (.sl 1)), (3, .d (.int .i64)), (4, .d (.int .i64))]]
  | _ => [.norm []]
def L50 : Lps := fun b => match b with
  | _ => [.norm []]
def L51 : Lps := fun b => match b with
  | 0 => [.norm [(0, .d (.sl 1)), (3, .own 3 1), (4, .d (.int .i64))]]
  | _ => [.norm []]
def L52 : Lps := fun b => match b with
  | 0 => [.ret [(4, .d (.bool))], .norm [(0, .d (.sl 1)), (1, .d (.sl 1)), (12, .d (.int .i64)), (13, .d (.int .i64))]]
  | _ => [.norm []]
def L53 : Lps := fun b => match b with
  | 0 => [.ret [(4, .d (.bool))], .norm [(0, .d (.sl 1)), (1, .d (.sl 1)), (5, .d (.int .i64))]]
  | _ => [.norm []]
def L54 : Lps := fun b => match b with
  | _ => [.norm []]
def L55 : Lps := fun b => match b with
  | 0 => [.ret [(4, .d (.int .i64))], .norm [(0, .d (.sl 4)), (1, .d (.str)), (7, .d (.int .i64)), (8, .d (.int .i64))]]
  | _ => [.norm []]
def L56 : Lps := fun b => match b with
  | 0 => [.ret [(2, .d (.bool))], .norm [(1, .dbox 68 0 [.str, .int .i64, .int .i64, .int .i64]), (3, .d (.int .i64))]]
  | _ => [.norm []]
def L57 : Lps := fun b => match b with
  | 0 => [.ret [(4, .d (.int .i64))], .norm [(0, .d (.sl 4)), (1, .d (.str)), (5, .d (.int .i64))]]
  | _ => [.norm []]
def L58 : Lps := fun b => match b with
  | 1000000 => [.ret [(4, .own 3 1), (5, .d (.bool))]]
  | _ => [.norm []]
def L59 : Lps := fun b => match b with
  | 0 => [.ret [(4, .d (.int .i64))], .norm [(0, .d (.sl 4)), (1, .d (.sl 1)), (5, .d (.int .i64)), (6, .d (.int .i64))]]
  | _ => [.norm []]
def L60 : Lps := fun b => match b with
  | 0 => [.ret [(4, .d (.bool))], .norm [(0, .d (.sl 1)), (1, .d (.int .i64)), (5, .d (.int .i64))]]
  | _ => [.norm []]
def L61 : Lps := fun b => match b with
  | 0 => [.ret [(2, .d (.bool))], .norm [(0, .d (.str)), (18, .d (.int .i64)), (19, .d (.int .i64))]]
  | _ => [.norm []]
def L62 : Lps := fun b => match b with
  | _ => [.norm []]
def L63 : Lps := fun b => match b with
  | 1000000 => [.ret [(6, .d (.int .i64)), (7, .d (.bool))]]
  | _ => [.norm []]
def L64 : Lps := fun b => match b with
  | 0 => [.ret [(6, .d (.int .i64))], .norm [(0, .d (.sl 4)), (1, .d (.sl 1)), (7, .d (.int .i64)), (8, .d (.int .i64))]]
  | _ => [.norm []]
def L65 : Lps := fun b => match b with
  | _ => [.norm []]
def L66 : Lps := fun b => match b with
  | _ => [.norm []]
def L67 : Lps := fun b => match b with
  | _ => [.norm []]
end Go.Proofs.YtckhlalpnginjaaDoor.Ab
