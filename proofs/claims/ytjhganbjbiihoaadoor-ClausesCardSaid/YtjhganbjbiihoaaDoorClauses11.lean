/- Words for the use of the evaluator: rows of whole numbers, wraps. No condition. -/
import Derived.Below
import Derived.IntWalk
import Derived.Test.YtjhganbjbiihoaaDoorClauses0
import Derived.Test.YtjhganbjbiihoaaDoorClauses1
import Derived.Test.YtjhganbjbiihoaaDoorClauses2
import Derived.Test.YtjhganbjbiihoaaDoorClauses3
import Derived.Test.YtjhganbjbiihoaaDoorClauses4
import Derived.Test.YtjhganbjbiihoaaDoorClauses5
import Derived.Test.YtjhganbjbiihoaaDoorClauses6
import Derived.Test.YtjhganbjbiihoaaDoorClauses7
import Derived.Test.YtjhganbjbiihoaaDoorClauses8
import Derived.Test.YtjhganbjbiihoaaDoorClauses9
import Derived.Test.YtjhganbjbiihoaaDoorClauses10
set_option linter.unusedVariables false
set_option linter.unusedSimpArgs false
namespace Go.Ab
open Go Go.RowKit

def ints (l : List Int) : List D := l.map (D.int .i64)
def gi (l : List Int) (i : Nat) : Int := l.getD i 0
theorem ints_len (l : List Int) : (ints l).length = l.length := by simp [ints]
theorem ints_at {l : List Int} {i : Nat} (h : i < l.length) : (ints l)[i]? = some (.int .i64 (gi l i)) := by
  simp [ints, gi, h]
theorem wr (n : Int) (h0 : -9223372036854775808 ≤ n) (h1 : n ≤ 9223372036854775807) : IntKind.wrap .i64 n = n := by
  rw [IntKind.wrap_i64 n]; omega
theorem ints_append (l m : List Int) : ints (l ++ m) = ints l ++ ints m := by simp [ints]
end Go.Ab

/- From what the evaluator tells to the machine's call: a law. No condition. -/
set_option linter.unusedVariables false
set_option linter.unusedSimpArgs false
namespace Go.Ab
open Go Go.RowKit

/-- All that a world holds is taken as never written again. -/
def Hw (w : World) : Fz := fun k => w.heap[k]?
theorem Hw.sub (w : World) : (Hw w).sub w := fun _ _ h => h
theorem Hw.cell {w : World} {a : Addr} {v : Value} (h : w.cell? a = some v) : cellH (Hw w) a = some v := by
  unfold World.cell? at h
  unfold cellH Hw
  exact h
theorem law_run {P : Program} {F : Fx} (hF : FxOk P F) {f : FuncId} {args outs : List IV} (h : W F f args = some (.d (.bool true), outs)) {w : World} {vs : List Value} (hg : GlobOk (Hw w) F.G) (hr : IV.RepL (Hw w) w args vs []) :
    Calls P f vs.toArray w fun e w' => e = .returned (.bool true) ∧ Below w.heap.size w w' := by
  refine ((W_sound hF _ _ _ _ h).2 (Hw w) w vs [] hg (Hw.sub w) hr (by simp) (by simp)).mono ?_
  rintro e w' ⟨v, H', b2, b3, rfl, _, _, h3, _, _, h6, _⟩
  unfold IV.Rep at h6
  have hv : v = .bool true := by
    have := h6.1
    simp only [D.RepV] at this
    unfold D.Rep at this
    simpa using this
  subst hv
  exact ⟨rfl, h3.os, h3.tape, h3.output, h3.size, fun k hk => h3.block k hk (by simp)⟩
theorem repL_nil {H : Fz} {w : World} : IV.RepL H w [] [] [] := by unfold IV.RepL; exact ⟨rfl, rfl⟩
theorem repL_cons {H : Fz} {w : World} {x : IV} {v : Value} {xs : List IV} {vs : List Value} (h : IV.Rep H w x v []) (h2 : IV.RepL H w xs vs []) : IV.RepL H w (x :: xs) (v :: vs) [] := by
  unfold IV.RepL; exact ⟨v, vs, [], [], rfl, rfl, h, h2⟩
theorem globOk_nil (H : Fz) : GlobOk H [] := fun g cs h => by simp [assoc] at h
end Go.Ab

/- Rules for loops and labels, by what their turns do. No condition. -/
set_option linter.unusedVariables false
set_option linter.unusedSimpArgs false
namespace Go.Ab
open Go
/-- The first places of a row, with the room behind it. -/
def tkX (n : Nat) (xs ext : List D) : List D := match ext with | [] => xs.take n | _ => (xs ++ ext).take n
theorem tkX_eq (n : Nat) (xs ext : List D) (h : ext ≠ [] ∨ n ≤ xs.length) : tkX n xs ext = (xs ++ ext).take n := by
  unfold tkX
  cases ext with
  | nil => rw [List.append_nil]
  | cons x l => rfl

@[simp] theorem condW_d {p : Prop} [Decidable p] {x y : Prop} : condW (decide p) x y = (if p then x else y) := by
  by_cases h : p
  · rw [decide_eq_true h, if_pos h]; rfl
  · rw [decide_eq_false h, if_neg h]; rfl
@[simp] theorem condW_b {b : Bool} {x y : Prop} : condW b x y = (if b = true then x else y) := by
  cases b <;> rfl
@[simp] theorem condW_tt {x y : Prop} : condW true x y = x := rfl
@[simp] theorem condW_ff {x y : Prop} : condW false x y = y := rfl
section
variable {F : Fx} {d : FnD} {lk p : List Nat}
/-- A loop, by what its turns do: `st` how it stands, `I` what holds, `post` what comes of it. -/
theorem loop_rule {α : Type} (st : α → Sl) (I : α → Prop) (μ : α → Nat) (post : α → Out → Prop)
    (step : ∀ x, I x → (∃ x', evP F (W F) (JW F d lk) d lk p (st x) = some (.norm (st x')) ∧ I x' ∧ μ x' < μ x ∧ ∀ o, post x' o → post x o) ∨ ∃ o, evP F (W F) (JW F d lk) d lk p (st x) = some o ∧ o.isNorm = false ∧ post x o) :
    ∀ x, I x → ∃ o, evL (JW F d lk) d p (st x) = some o ∧ post x o := by
  have key : ∀ n x, μ x < n → I x → ∃ o, evL (JW F d lk) d p (st x) = some o ∧ post x o := by
    intro n
    induction n with
    | zero => intro x h; omega
    | succ n ih =>
      intro x hn hi
      rcases step x hi with ⟨x', h1, h2, h3, h4⟩ | ⟨o, h1, h2, h3⟩
      · obtain ⟨o, h5, h6⟩ := ih x' (by omega) h2
        exact ⟨o, evL_go h1 h5, h4 o h6⟩
      · exact ⟨o, evL_end h1 h2, h3⟩
  exact fun x hi => key (μ x + 1) x (Nat.lt_succ_self _) hi
/-- Labels likewise. -/
theorem label_rule {α : Type} (lb : α → Nat) (st : α → Sl) (I : α → Prop) (μ : α → Nat) (post : α → Out → Prop) (hl : ∀ x, I x → (findLabel (Code.piece p d.body) (lb x)).isSome = true)
    (step : ∀ x, I x → (∃ x', evR F (W F) (JW F d lk) d lk p (lb x) (st x) = some (.goto (lb x') (st x')) ∧ I x' ∧ μ x' < μ x ∧ ∀ o, post x' o → post x o) ∨ ∃ o, evR F (W F) (JW F d lk) d lk p (lb x) (st x) = some o ∧ o.isGoto = false ∧ post x o) :
    ∀ x, I x → ∃ o, evG (JW F d lk) d p (lb x) (st x) = some o ∧ post x o := by
  have key : ∀ n x, μ x < n → I x → ∃ o, evG (JW F d lk) d p (lb x) (st x) = some o ∧ post x o := by
    intro n
    induction n with
    | zero => intro x h; omega
    | succ n ih =>
      intro x hn hi
      rcases step x hi with ⟨x', h1, h2, h3, h4⟩ | ⟨o, h1, h2, h3⟩
      · obtain ⟨o, h5, h6⟩ := ih x' (by omega) h2
        exact ⟨o, evG_go (hl x' h2) h1 h5, h4 o h6⟩
      · exact ⟨o, evG_end h1 h2, h3⟩
  exact fun x hi => key (μ x + 1) x (Nat.lt_succ_self _) hi
/-- All of so many. -/
theorem loop_all {n id : Nat} {st : Nat → Sl} {q : Nat → Bool} {rt : Sl} {e : Sl}
    (hgo : ∀ i, i < n → q i = true → evP F (W F) (JW F d lk) d lk p (st i) = some (.norm (st (i + 1))))
    (hno : ∀ i, i < n → q i = false → evP F (W F) (JW F d lk) d lk p (st i) = some (.ret rt))
    (hend : evP F (W F) (JW F d lk) d lk p (st n) = some (.exit id e)) :
    ∀ i, i ≤ n → ((∀ j, i ≤ j → j < n → q j = true) ∧ evL (JW F d lk) d p (st i) = some (.exit id e)) ∨ ((∃ j, i ≤ j ∧ j < n ∧ q j = false) ∧ evL (JW F d lk) d p (st i) = some (.ret rt)) := by
  intro i hi
  obtain ⟨k, rfl⟩ : ∃ k, n = i + k := ⟨n - i, by omega⟩
  induction k generalizing i with
  | zero => exact .inl ⟨fun j h1 h2 => by omega, evL_end hend rfl⟩
  | succ k ih =>
    cases hq : q i with
    | false => exact .inr ⟨⟨i, Nat.le_refl _, by omega, hq⟩, evL_end (hno i (by omega) hq) rfl⟩
    | true =>
      have h1 := hgo i (by omega) hq
      have e1 : i + (k + 1) = (i + 1) + k := by omega
      rw [e1] at hgo hno hend ⊢
      rcases ih (i + 1) hgo hno hend (by omega) with ⟨h2, h3⟩ | ⟨⟨j, h2, h4, h5⟩, h3⟩
      · refine .inl ⟨fun j hj1 hj2 => ?_, evL_go h1 h3⟩
        by_cases hji : j = i
        · subst hji; exact hq
        · exact h2 j (by omega) hj2
      · exact .inr ⟨⟨j, by omega, h4, h5⟩, evL_go h1 h3⟩
/-- The first of so many. -/
theorem loop_find {n id : Nat} {st : Nat → Sl} {q : Nat → Bool} {rt : Nat → Sl} {e : Sl}
    (hgo : ∀ i, i < n → q i = false → evP F (W F) (JW F d lk) d lk p (st i) = some (.norm (st (i + 1))))
    (hno : ∀ i, i < n → q i = true → evP F (W F) (JW F d lk) d lk p (st i) = some (.ret (rt i)))
    (hend : evP F (W F) (JW F d lk) d lk p (st n) = some (.exit id e)) :
    ∀ i, i ≤ n → ((∀ j, i ≤ j → j < n → q j = false) ∧ evL (JW F d lk) d p (st i) = some (.exit id e)) ∨ (∃ j, i ≤ j ∧ j < n ∧ q j = true ∧ (∀ k, i ≤ k → k < j → q k = false) ∧ evL (JW F d lk) d p (st i) = some (.ret (rt j))) := by
  intro i hi
  obtain ⟨k, rfl⟩ : ∃ k, n = i + k := ⟨n - i, by omega⟩
  induction k generalizing i with
  | zero => exact .inl ⟨fun j h1 h2 => by omega, evL_end hend rfl⟩
  | succ k ih =>
    cases hq : q i with
    | true => exact .inr ⟨i, Nat.le_refl _, by omega, hq, fun k h1 h2 => by omega, evL_end (hno i (by omega) hq) rfl⟩
    | false =>
      have h1 := hgo i (by omega) hq
      have e1 : i + (k + 1) = (i + 1) + k := by omega
      rw [e1] at hgo hno hend ⊢
      rcases ih (i + 1) hgo hno hend (by omega) with ⟨h2, h3⟩ | ⟨j, h2, h4, h5, h6, h3⟩
      · refine .inl ⟨fun j hj1 hj2 => ?_, evL_go h1 h3⟩
        by_cases hji : j = i
        · subst hji; exact hq
        · exact h2 j (by omega) hj2
      · refine .inr ⟨j, by omega, h4, h5, fun k h7 h8 => ?_, evL_go h1 h3⟩
        by_cases hki : k = i
        · subst hki; exact hq
        · exact h6 k (by omega) h8
/-! The same, for the block of a loop. -/
theorem blk_rule {α : Type} {p0 : List Nat} (id : Nat) (hc : Code.piece p0 d.body = .block id (.loop (Code.piece p d.body))) (st : α → Sl) (I : α → Prop) (μ : α → Nat) (post : α → Out → Prop)
    (step : ∀ x, I x → (∃ x', evP F (W F) (JW F d lk) d lk p (st x) = some (.norm (st x')) ∧ I x' ∧ μ x' < μ x ∧ ∀ o, post x' o → post x o) ∨ ∃ o, evP F (W F) (JW F d lk) d lk p (st x) = some o ∧ o.isNorm = false ∧ post x (blkO id o)) :
    ∀ x, I x → ∃ o, evP F (W F) (JW F d lk) d lk p0 (st x) = some o ∧ post x o := by
  intro x hx
  obtain ⟨o, h1, h2⟩ := loop_rule st I μ (fun x o => post x (blkO id o)) (fun x hi => by
    rcases step x hi with ⟨x', h1, h2, h3, h4⟩ | ⟨o, h1, h2, h3⟩
    · exact .inl ⟨x', h1, h2, h3, fun o h => h4 _ h⟩
    · exact .inr ⟨o, h1, h2, h3⟩) x hx
  exact ⟨_, evL_at hc h1 rfl, h2⟩
theorem blk_all {p0 : List Nat} {id : Nat} (hc : Code.piece p0 d.body = .block id (.loop (Code.piece p d.body))) {n : Nat} {st : Nat → Sl} {q : Nat → Bool} {rt : Sl} {e : Sl}
    (hgo : ∀ i, i < n → q i = true → evP F (W F) (JW F d lk) d lk p (st i) = some (.norm (st (i + 1))))
    (hno : ∀ i, i < n → q i = false → evP F (W F) (JW F d lk) d lk p (st i) = some (.ret rt))
    (hend : evP F (W F) (JW F d lk) d lk p (st n) = some (.exit id e)) (i : Nat) (hi : i ≤ n) :
    ((∀ j, i ≤ j → j < n → q j = true) ∧ evP F (W F) (JW F d lk) d lk p0 (st i) = some (.norm e)) ∨ ((∃ j, i ≤ j ∧ j < n ∧ q j = false) ∧ evP F (W F) (JW F d lk) d lk p0 (st i) = some (.ret rt)) := by
  rcases loop_all hgo hno hend i hi with ⟨h1, h2⟩ | ⟨h1, h2⟩
  · exact .inl ⟨h1, evL_at hc h2 (by simp [blkO])⟩
  · exact .inr ⟨h1, evL_at hc h2 rfl⟩
theorem blk_find {p0 : List Nat} {id : Nat} (hc : Code.piece p0 d.body = .block id (.loop (Code.piece p d.body))) {n : Nat} {st : Nat → Sl} {q : Nat → Bool} {rt : Nat → Sl} {e : Sl}
    (hgo : ∀ i, i < n → q i = false → evP F (W F) (JW F d lk) d lk p (st i) = some (.norm (st (i + 1))))
    (hno : ∀ i, i < n → q i = true → evP F (W F) (JW F d lk) d lk p (st i) = some (.ret (rt i)))
    (hend : evP F (W F) (JW F d lk) d lk p (st n) = some (.exit id e)) (i : Nat) (hi : i ≤ n) :
    ((∀ j, i ≤ j → j < n → q j = false) ∧ evP F (W F) (JW F d lk) d lk p0 (st i) = some (.norm e)) ∨ (∃ j, i ≤ j ∧ j < n ∧ q j = true ∧ (∀ k, i ≤ k → k < j → q k = false) ∧ evP F (W F) (JW F d lk) d lk p0 (st i) = some (.ret (rt j))) := by
  rcases loop_find hgo hno hend i hi with ⟨h1, h2⟩ | ⟨j, h1, h2, h3, h4, h5⟩
  · exact .inl ⟨h1, evL_at hc h2 (by simp [blkO])⟩
  · exact .inr ⟨j, h1, h2, h3, h4, evL_at hc h5 rfl⟩
/-! What a loop makes of how it stands, as a function. -/
def Turn (F : Fx) (d : FnD) (lk p : List Nat) (id : Nat) {α : Type} (st : α → Sl) (I : α → Prop) (μ : α → Nat) (res : α → Out) (x : α) : Prop :=
  (∃ x', evP F (W F) (JW F d lk) d lk p (st x) = some (.norm (st x')) ∧ I x' ∧ μ x' < μ x ∧ res x' = res x) ∨ ∃ o, evP F (W F) (JW F d lk) d lk p (st x) = some o ∧ o.isNorm = false ∧ blkO id o = res x
theorem Turn.go {id : Nat} {α : Type} {st : α → Sl} {I : α → Prop} {μ : α → Nat} {res : α → Out} {x : α} (x' : α) (h : evP F (W F) (JW F d lk) d lk p (st x) = some (.norm (st x'))) (hI : I x') (hm : μ x' < μ x) (hr : res x' = res x) : Turn F d lk p id st I μ res x := .inl ⟨x', h, hI, hm, hr⟩
theorem Turn.stop {id : Nat} {α : Type} {st : α → Sl} {I : α → Prop} {μ : α → Nat} {res : α → Out} {x : α} (o : Out) (h : evP F (W F) (JW F d lk) d lk p (st x) = some o) (hn : o.isNorm = false) (hr : blkO id o = res x) : Turn F d lk p id st I μ res x := .inr ⟨o, h, hn, hr⟩
theorem blk_fun {α : Type} {p0 : List Nat} {id : Nat} (hc : Code.piece p0 d.body = .block id (.loop (Code.piece p d.body))) {st : α → Sl} {I : α → Prop} {μ : α → Nat} {res : α → Out}
    (step : ∀ x, I x → Turn F d lk p id st I μ res x) (x : α) (hx : I x) : evP F (W F) (JW F d lk) d lk p0 (st x) = some (res x) := by
  obtain ⟨o, h1, rfl⟩ := blk_rule (F := F) (d := d) (lk := lk) (p := p) id hc st I μ (fun x o => o = res x) (fun x hi => by
    rcases step x hi with ⟨x', h1, h2, h3, h4⟩ | ⟨o, h1, h2, h3⟩
    · exact .inl ⟨x', h1, h2, h3, fun o h => h.trans h4⟩
    · exact .inr ⟨o, h1, h2, h3⟩) x hx
  exact h1
def LTurn (F : Fx) (d : FnD) (lk p : List Nat) {α : Type} (lb : α → Nat) (st : α → Sl) (I : α → Prop) (μ : α → Nat) (res : α → Out) (x : α) : Prop :=
  (∃ x', evR F (W F) (JW F d lk) d lk p (lb x) (st x) = some (.goto (lb x') (st x')) ∧ I x' ∧ μ x' < μ x ∧ res x' = res x) ∨ ∃ o, evR F (W F) (JW F d lk) d lk p (lb x) (st x) = some o ∧ o.isGoto = false ∧ o = res x
theorem LTurn.go {α : Type} {lb : α → Nat} {st : α → Sl} {I : α → Prop} {μ : α → Nat} {res : α → Out} {x : α} (x' : α) (h : evR F (W F) (JW F d lk) d lk p (lb x) (st x) = some (.goto (lb x') (st x'))) (hI : I x') (hm : μ x' < μ x) (hr : res x' = res x) : LTurn F d lk p lb st I μ res x := .inl ⟨x', h, hI, hm, hr⟩
theorem LTurn.stop {α : Type} {lb : α → Nat} {st : α → Sl} {I : α → Prop} {μ : α → Nat} {res : α → Out} {x : α} (o : Out) (h : evR F (W F) (JW F d lk) d lk p (lb x) (st x) = some o) (hn : o.isGoto = false) (hr : o = res x) : LTurn F d lk p lb st I μ res x := .inr ⟨o, h, hn, hr⟩
end
end Go.Ab
