/- The law of a piece of code with labels: what holds at each jump to a label, with a number that every jump lowers. No condition. -/
import Derived.ScopeJumps
import Derived.Tactics2
import Derived.WalkMore
namespace Go.Proofs.Ytajdnphpjlfajaa.Scopes

/-- By a goto to label l: K l; else as Q. -/
def Jumps (K : Nat → Act → World → Prop) (Q : Exit → Act → World → Prop) : Exit → Act → World → Prop
  | .goto l, a, w => K l a w
  | e, a, w => Q e a w

section
variable {Q : Exit → Act → World → Prop} {K : Nat → Act → World → Prop} {a : Act} {w : World}
@[go_sem] theorem Jumps_normal : Jumps K Q .normal a w = Q .normal a w := rfl
@[go_sem] theorem Jumps_exit (id : Nat) : Jumps K Q (.exit id) a w = Q (.exit id) a w := rfl
@[go_sem] theorem Jumps_ret : Jumps K Q .ret a w = Q .ret a w := rfl
@[go_sem] theorem Jumps_panic (ch : List PanicEntry) : Jumps K Q (.panic ch) a w = Q (.panic ch) a w := rfl
end

/-- A fact laid aside. -/
structure Hid1 (p : Prop) : Prop where mk :: (out : p)

theorem jumps_mono {K K' : Nat → Act → World → Prop} {Q : Exit → Act → World → Prop} (h : ∀ l a w, K l a w → K' l a w) : ∀ e a w, Jumps K Q e a w → Jumps K' Q e a w := by
  intro e a w hq
  cases e with
  | goto l => exact h l a w hq
  | normal => exact hq
  | exit id => exact hq
  | ret => exact hq
  | panic ch => exact hq
  | outgrown => exact hq

section
variable {P : Program} {Q : Exit → Act → World → Prop}

theorem wp_scope_all {c : Code} (I : Nat → Nat → Act → World → Prop) (R : Nat → Option Code)
    (hR : ∀ l r, R l = some r → findLabel c l = some (.seq .skip r))
    (hI : ∀ l n a w, I l n a w → ∃ r, R l = some r) (n0 : Nat) {a : Act} {w : World}
    (first : ∀ K : Nat → Act → World → Prop, (∀ l m a w, m < n0 → I l m a w → K l a w) → (∀ l r m a w, R l = some r → m < n0 → I l m a w → r.wp P (Jumps K Q) a w) → c.wp P (Jumps K Q) a w)
    (pass : ∀ n l r, R l = some r → ∀ K : Nat → Act → World → Prop, (∀ l m a w, m < n → I l m a w → K l a w) → (∀ l r m a w, R l = some r → m < n → I l m a w → r.wp P (Jumps K Q) a w) → ∀ a w, I l n a w → r.wp P (Jumps K Q) a w) :
    (Code.scope c).wp P Q a w := by
  have claim : ∀ n l r a w, R l = some r → I l n a w → r.wp P (Jumps (fun l a w => ∃ m, m < n ∧ I l m a w) Q) a w := by
    intro n
    induction n using Nat.strongRecOn with
    | _ n ih =>
      intro l r a w hr h
      exact pass n l r hr _ (fun l m a w hm hi => ⟨m, hm, hi⟩) (fun l r m a w hr hm hi => wp_mono (ih m hm l r a w hr hi) (jumps_mono fun l a w ⟨m', hm', hi'⟩ => ⟨m', Nat.lt_trans hm' hm, hi'⟩)) a w h
  have start := first (fun l a w => ∃ m, m < n0 ∧ I l m a w) (fun l m a w hm hi => ⟨m, hm, hi⟩) (fun l r m a w hr hm hi => wp_mono (claim m l r a w hr hi) (jumps_mono fun l a w ⟨m', hm', hi'⟩ => ⟨m', Nat.lt_trans hm' hm, hi'⟩))
  intro b k cs
  have hg : ∀ l r, R l = some r → gotoIn l (.inScope c :: k) = some (.code (.seq .skip r) :: .inScope c :: k) := fun l r hr => by simp [gotoIn, hR l r hr]
  have key : ∀ n l r a w, R l = some r → I l n a w → ∃ e a' w', Q e a' w' ∧ Arrives P (lone (b.at a (.code (.seq .skip r) :: .inScope c :: k)) cs w) b k cs e a' w' := by
    intro n
    induction n using Nat.strongRecOn with
    | _ n ih =>
      intro l r a w hr h
      have hs : (Code.seq .skip r).wp P (Jumps (fun l a w => ∃ m, m < n ∧ I l m a w) Q) a w := wp_seq (wp_skip (claim n l r a w hr h))
      obtain ⟨e, a₁, w₁, hq, harr⟩ := hs b (.inScope c :: k) cs
      cases e with
      | normal => exact ⟨.normal, a₁, w₁, hq, Steps.trans harr (.one step_inScope)⟩
      | exit id => exact ⟨.exit id, a₁, w₁, hq, fun k' hk => harr k' (by simp [exitTo, hk])⟩
      | goto l' =>
        obtain ⟨m, hlt, hi⟩ := hq
        obtain ⟨r', hr'⟩ := hI _ _ _ _ hi
        obtain ⟨e₂, a₂, w₂, hq₂, harr₂⟩ := ih m hlt l' r' a₁ w₁ hr' hi
        exact ⟨e₂, a₂, w₂, hq₂, .of_steps (harr _ (hg l' r' hr')) harr₂⟩
      | ret => exact ⟨_, a₁, w₁, hq, harr⟩
      | panic ch => exact ⟨_, a₁, w₁, hq, harr⟩
      | outgrown => exact ⟨_, a₁, w₁, hq, harr⟩
  obtain ⟨e, a₁, w₁, hq, harr⟩ := start b (.inScope c :: k) cs
  cases e with
  | normal => exact ⟨.normal, a₁, w₁, hq, .head step_scope (Steps.trans harr (.one step_inScope))⟩
  | exit id => exact ⟨.exit id, a₁, w₁, hq, fun k' hk => .head step_scope (harr k' (by simp [exitTo, hk]))⟩
  | goto l' =>
    obtain ⟨m, hlt, hi⟩ := hq
    obtain ⟨r', hr'⟩ := hI _ _ _ _ hi
    obtain ⟨e₂, a₂, w₂, hq₂, harr₂⟩ := key m l' r' a₁ w₁ hr' hi
    exact ⟨e₂, a₂, w₂, hq₂, .of_steps (.head step_scope (harr _ (hg l' r' hr'))) harr₂⟩
  | ret => exact ⟨_, a₁, w₁, hq, .of_steps (.one step_scope) harr⟩
  | panic ch => exact ⟨_, a₁, w₁, hq, .of_steps (.one step_scope) harr⟩
  | outgrown => exact ⟨_, a₁, w₁, hq, .of_steps (.one step_scope) harr⟩

theorem wp_scope1 {c : Code} (l1 : Nat) (I1 : Nat → Act → World → Prop) (n0 : Nat) {R1 : Code} {a : Act} {w : World}
    (hd : [l1].Nodup) (h1 : findLabel c l1 = some (.seq .skip R1))
    (first : ∀ K : Nat → Act → World → Prop, Hid1 (∀ m a w, m < n0 → I1 m a w → K l1 a w) → Hid1 (∀ m a w, m < n0 → I1 m a w → R1.wp P (Jumps K Q) a w) → c.wp P (Jumps K Q) a w)
    (pass1 : ∀ n, ∀ K : Nat → Act → World → Prop, Hid1 (∀ m a w, m < n → I1 m a w → K l1 a w) → Hid1 (∀ m a w, m < n → I1 m a w → R1.wp P (Jumps K Q) a w) → ∀ a w, I1 n a w → R1.wp P (Jumps K Q) a w)
    : (Code.scope c).wp P Q a w := by
  have ne : ∀ i j, [l1][i]? = [l1][j]? → i < 1 → j < 1 → i = j := fun i j h hi hj => (List.getElem?_inj (by simpa using hi) hd).1 h
  let I : Nat → Nat → Act → World → Prop := fun l => if l = l1 then I1 else fun _ _ _ => False
  let R : Nat → Option Code := fun l => if l = l1 then some R1 else none
  have eI1 : I l1 = I1 := by simp [I]
  have eR1 : R l1 = some R1 := by simp [R]
  have cases_ : ∀ l, (l = l1) ∨ R l = none ∧ ∀ n a w, ¬ I l n a w := by
    intro l
    by_cases q1 : l = l1
    · exact .inl (by simp [q1])
    exact .inr ⟨by simp [R, q1], fun n a w h => by simp [I, q1] at h⟩
  refine wp_scope_all I R ?_ ?_ n0 (fun K hK hF => first K ⟨fun m a w hm h => hK l1 m a w hm (by rw [eI1]; exact h)⟩ ⟨fun m a w hm h => hF l1 R1 m a w eR1 hm (by rw [eI1]; exact h)⟩) ?_
  · intro l r hr
    rcases cases_ l with (q) | ⟨h, _⟩
    · rw [q, eR1] at hr; cases hr; rw [q]; exact h1
    · rw [h] at hr; cases hr
  · intro l n a w h
    rcases cases_ l with (q) | ⟨_, h'⟩
    · rw [q]; exact ⟨_, eR1⟩
    · exact absurd h (h' _ _ _)
  · intro n l r hr K hK hF a w h
    rcases cases_ l with (q) | ⟨h', _⟩
    · rw [q, eR1] at hr; cases hr; rw [q, eI1] at h; exact pass1 n K ⟨fun m a w hm h => hK l1 m a w hm (by rw [eI1]; exact h)⟩ ⟨fun m a w hm h => hF l1 R1 m a w eR1 hm (by rw [eI1]; exact h)⟩ a w h
    · rw [h'] at hr; cases hr

theorem wp_scope2 {c : Code} (l1 l2 : Nat) (I1 I2 : Nat → Act → World → Prop) (n0 : Nat) {R1 R2 : Code} {a : Act} {w : World}
    (hd : [l1, l2].Nodup) (h1 : findLabel c l1 = some (.seq .skip R1)) (h2 : findLabel c l2 = some (.seq .skip R2))
    (first : ∀ K : Nat → Act → World → Prop, Hid1 (∀ m a w, m < n0 → I1 m a w → K l1 a w) → Hid1 (∀ m a w, m < n0 → I2 m a w → K l2 a w) → Hid1 (∀ m a w, m < n0 → I1 m a w → R1.wp P (Jumps K Q) a w) → Hid1 (∀ m a w, m < n0 → I2 m a w → R2.wp P (Jumps K Q) a w) → c.wp P (Jumps K Q) a w)
    (pass1 : ∀ n, ∀ K : Nat → Act → World → Prop, Hid1 (∀ m a w, m < n → I1 m a w → K l1 a w) → Hid1 (∀ m a w, m < n → I2 m a w → K l2 a w) → Hid1 (∀ m a w, m < n → I1 m a w → R1.wp P (Jumps K Q) a w) → Hid1 (∀ m a w, m < n → I2 m a w → R2.wp P (Jumps K Q) a w) → ∀ a w, I1 n a w → R1.wp P (Jumps K Q) a w)
    (pass2 : ∀ n, ∀ K : Nat → Act → World → Prop, Hid1 (∀ m a w, m < n → I1 m a w → K l1 a w) → Hid1 (∀ m a w, m < n → I2 m a w → K l2 a w) → Hid1 (∀ m a w, m < n → I1 m a w → R1.wp P (Jumps K Q) a w) → Hid1 (∀ m a w, m < n → I2 m a w → R2.wp P (Jumps K Q) a w) → ∀ a w, I2 n a w → R2.wp P (Jumps K Q) a w)
    : (Code.scope c).wp P Q a w := by
  have ne : ∀ i j, [l1, l2][i]? = [l1, l2][j]? → i < 2 → j < 2 → i = j := fun i j h hi hj => (List.getElem?_inj (by simpa using hi) hd).1 h
  let I : Nat → Nat → Act → World → Prop := fun l => if l = l1 then I1 else if l = l2 then I2 else fun _ _ _ => False
  let R : Nat → Option Code := fun l => if l = l1 then some R1 else if l = l2 then some R2 else none
  have eI1 : I l1 = I1 := by simp [I]
  have eR1 : R l1 = some R1 := by simp [R]
  have eI2 : I l2 = I2 := by simp [I, show ¬ l2 = l1 from fun h => absurd (ne 1 0 (by simp [h]) (by omega) (by omega)) (by omega)]
  have eR2 : R l2 = some R2 := by simp [R, show ¬ l2 = l1 from fun h => absurd (ne 1 0 (by simp [h]) (by omega) (by omega)) (by omega)]
  have cases_ : ∀ l, (l = l1 ∨ l = l2) ∨ R l = none ∧ ∀ n a w, ¬ I l n a w := by
    intro l
    by_cases q1 : l = l1
    · exact .inl (by simp [q1])
    by_cases q2 : l = l2
    · exact .inl (by simp [q2])
    exact .inr ⟨by simp [R, q1, q2], fun n a w h => by simp [I, q1, q2] at h⟩
  refine wp_scope_all I R ?_ ?_ n0 (fun K hK hF => first K ⟨fun m a w hm h => hK l1 m a w hm (by rw [eI1]; exact h)⟩ ⟨fun m a w hm h => hK l2 m a w hm (by rw [eI2]; exact h)⟩ ⟨fun m a w hm h => hF l1 R1 m a w eR1 hm (by rw [eI1]; exact h)⟩ ⟨fun m a w hm h => hF l2 R2 m a w eR2 hm (by rw [eI2]; exact h)⟩) ?_
  · intro l r hr
    rcases cases_ l with (q | q) | ⟨h, _⟩
    · rw [q, eR1] at hr; cases hr; rw [q]; exact h1
    · rw [q, eR2] at hr; cases hr; rw [q]; exact h2
    · rw [h] at hr; cases hr
  · intro l n a w h
    rcases cases_ l with (q | q) | ⟨_, h'⟩
    · rw [q]; exact ⟨_, eR1⟩
    · rw [q]; exact ⟨_, eR2⟩
    · exact absurd h (h' _ _ _)
  · intro n l r hr K hK hF a w h
    rcases cases_ l with (q | q) | ⟨h', _⟩
    · rw [q, eR1] at hr; cases hr; rw [q, eI1] at h; exact pass1 n K ⟨fun m a w hm h => hK l1 m a w hm (by rw [eI1]; exact h)⟩ ⟨fun m a w hm h => hK l2 m a w hm (by rw [eI2]; exact h)⟩ ⟨fun m a w hm h => hF l1 R1 m a w eR1 hm (by rw [eI1]; exact h)⟩ ⟨fun m a w hm h => hF l2 R2 m a w eR2 hm (by rw [eI2]; exact h)⟩ a w h
    · rw [q, eR2] at hr; cases hr; rw [q, eI2] at h; exact pass2 n K ⟨fun m a w hm h => hK l1 m a w hm (by rw [eI1]; exact h)⟩ ⟨fun m a w hm h => hK l2 m a w hm (by rw [eI2]; exact h)⟩ ⟨fun m a w hm h => hF l1 R1 m a w eR1 hm (by rw [eI1]; exact h)⟩ ⟨fun m a w hm h => hF l2 R2 m a w eR2 hm (by rw [eI2]; exact h)⟩ a w h
    · rw [h'] at hr; cases hr

theorem wp_scope6 {c : Code} (l1 l2 l3 l4 l5 l6 : Nat) (I1 I2 I3 I4 I5 I6 : Nat → Act → World → Prop) (n0 : Nat) {R1 R2 R3 R4 R5 R6 : Code} {a : Act} {w : World}
    (hd : [l1, l2, l3, l4, l5, l6].Nodup) (h1 : findLabel c l1 = some (.seq .skip R1)) (h2 : findLabel c l2 = some (.seq .skip R2)) (h3 : findLabel c l3 = some (.seq .skip R3)) (h4 : findLabel c l4 = some (.seq .skip R4)) (h5 : findLabel c l5 = some (.seq .skip R5)) (h6 : findLabel c l6 = some (.seq .skip R6))
    (first : ∀ K : Nat → Act → World → Prop, Hid1 (∀ m a w, m < n0 → I1 m a w → K l1 a w) → Hid1 (∀ m a w, m < n0 → I2 m a w → K l2 a w) → Hid1 (∀ m a w, m < n0 → I3 m a w → K l3 a w) → Hid1 (∀ m a w, m < n0 → I4 m a w → K l4 a w) → Hid1 (∀ m a w, m < n0 → I5 m a w → K l5 a w) → Hid1 (∀ m a w, m < n0 → I6 m a w → K l6 a w) → Hid1 (∀ m a w, m < n0 → I1 m a w → R1.wp P (Jumps K Q) a w) → Hid1 (∀ m a w, m < n0 → I2 m a w → R2.wp P (Jumps K Q) a w) → Hid1 (∀ m a w, m < n0 → I3 m a w → R3.wp P (Jumps K Q) a w) → Hid1 (∀ m a w, m < n0 → I4 m a w → R4.wp P (Jumps K Q) a w) → Hid1 (∀ m a w, m < n0 → I5 m a w → R5.wp P (Jumps K Q) a w) → Hid1 (∀ m a w, m < n0 → I6 m a w → R6.wp P (Jumps K Q) a w) → c.wp P (Jumps K Q) a w)
    (pass1 : ∀ n, ∀ K : Nat → Act → World → Prop, Hid1 (∀ m a w, m < n → I1 m a w → K l1 a w) → Hid1 (∀ m a w, m < n → I2 m a w → K l2 a w) → Hid1 (∀ m a w, m < n → I3 m a w → K l3 a w) → Hid1 (∀ m a w, m < n → I4 m a w → K l4 a w) → Hid1 (∀ m a w, m < n → I5 m a w → K l5 a w) → Hid1 (∀ m a w, m < n → I6 m a w → K l6 a w) → Hid1 (∀ m a w, m < n → I1 m a w → R1.wp P (Jumps K Q) a w) → Hid1 (∀ m a w, m < n → I2 m a w → R2.wp P (Jumps K Q) a w) → Hid1 (∀ m a w, m < n → I3 m a w → R3.wp P (Jumps K Q) a w) → Hid1 (∀ m a w, m < n → I4 m a w → R4.wp P (Jumps K Q) a w) → Hid1 (∀ m a w, m < n → I5 m a w → R5.wp P (Jumps K Q) a w) → Hid1 (∀ m a w, m < n → I6 m a w → R6.wp P (Jumps K Q) a w) → ∀ a w, I1 n a w → R1.wp P (Jumps K Q) a w)
    (pass2 : ∀ n, ∀ K : Nat → Act → World → Prop, Hid1 (∀ m a w, m < n → I1 m a w → K l1 a w) → Hid1 (∀ m a w, m < n → I2 m a w → K l2 a w) → Hid1 (∀ m a w, m < n → I3 m a w → K l3 a w) → Hid1 (∀ m a w, m < n → I4 m a w → K l4 a w) → Hid1 (∀ m a w, m < n → I5 m a w → K l5 a w) → Hid1 (∀ m a w, m < n → I6 m a w → K l6 a w) → Hid1 (∀ m a w, m < n → I1 m a w → R1.wp P (Jumps K Q) a w) → Hid1 (∀ m a w, m < n → I2 m a w → R2.wp P (Jumps K Q) a w) → Hid1 (∀ m a w, m < n → I3 m a w → R3.wp P (Jumps K Q) a w) → Hid1 (∀ m a w, m < n → I4 m a w → R4.wp P (Jumps K Q) a w) → Hid1 (∀ m a w, m < n → I5 m a w → R5.wp P (Jumps K Q) a w) → Hid1 (∀ m a w, m < n → I6 m a w → R6.wp P (Jumps K Q) a w) → ∀ a w, I2 n a w → R2.wp P (Jumps K Q) a w)
    (pass3 : ∀ n, ∀ K : Nat → Act → World → Prop, Hid1 (∀ m a w, m < n → I1 m a w → K l1 a w) → Hid1 (∀ m a w, m < n → I2 m a w → K l2 a w) → Hid1 (∀ m a w, m < n → I3 m a w → K l3 a w) → Hid1 (∀ m a w, m < n → I4 m a w → K l4 a w) → Hid1 (∀ m a w, m < n → I5 m a w → K l5 a w) → Hid1 (∀ m a w, m < n → I6 m a w → K l6 a w) → Hid1 (∀ m a w, m < n → I1 m a w → R1.wp P (Jumps K Q) a w) → Hid1 (∀ m a w, m < n → I2 m a w → R2.wp P (Jumps K Q) a w) → Hid1 (∀ m a w, m < n → I3 m a w → R3.wp P (Jumps K Q) a w) → Hid1 (∀ m a w, m < n → I4 m a w → R4.wp P (Jumps K Q) a w) → Hid1 (∀ m a w, m < n → I5 m a w → R5.wp P (Jumps K Q) a w) → Hid1 (∀ m a w, m < n → I6 m a w → R6.wp P (Jumps K Q) a w) → ∀ a w, I3 n a w → R3.wp P (Jumps K Q) a w)
    (pass4 : ∀ n, ∀ K : Nat → Act → World → Prop, Hid1 (∀ m a w, m < n → I1 m a w → K l1 a w) → Hid1 (∀ m a w, m < n → I2 m a w → K l2 a w) → Hid1 (∀ m a w, m < n → I3 m a w → K l3 a w) → Hid1 (∀ m a w, m < n → I4 m a w → K l4 a w) → Hid1 (∀ m a w, m < n → I5 m a w → K l5 a w) → Hid1 (∀ m a w, m < n → I6 m a w → K l6 a w) → Hid1 (∀ m a w, m < n → I1 m a w → R1.wp P (Jumps K Q) a w) → Hid1 (∀ m a w, m < n → I2 m a w → R2.wp P (Jumps K Q) a w) → Hid1 (∀ m a w, m < n → I3 m a w → R3.wp P (Jumps K Q) a w) → Hid1 (∀ m a w, m < n → I4 m a w → R4.wp P (Jumps K Q) a w) → Hid1 (∀ m a w, m < n → I5 m a w → R5.wp P (Jumps K Q) a w) → Hid1 (∀ m a w, m < n → I6 m a w → R6.wp P (Jumps K Q) a w) → ∀ a w, I4 n a w → R4.wp P (Jumps K Q) a w)
    (pass5 : ∀ n, ∀ K : Nat → Act → World → Prop, Hid1 (∀ m a w, m < n → I1 m a w → K l1 a w) → Hid1 (∀ m a w, m < n → I2 m a w → K l2 a w) → Hid1 (∀ m a w, m < n → I3 m a w → K l3 a w) → Hid1 (∀ m a w, m < n → I4 m a w → K l4 a w) → Hid1 (∀ m a w, m < n → I5 m a w → K l5 a w) → Hid1 (∀ m a w, m < n → I6 m a w → K l6 a w) → Hid1 (∀ m a w, m < n → I1 m a w → R1.wp P (Jumps K Q) a w) → Hid1 (∀ m a w, m < n → I2 m a w → R2.wp P (Jumps K Q) a w) → Hid1 (∀ m a w, m < n → I3 m a w → R3.wp P (Jumps K Q) a w) → Hid1 (∀ m a w, m < n → I4 m a w → R4.wp P (Jumps K Q) a w) → Hid1 (∀ m a w, m < n → I5 m a w → R5.wp P (Jumps K Q) a w) → Hid1 (∀ m a w, m < n → I6 m a w → R6.wp P (Jumps K Q) a w) → ∀ a w, I5 n a w → R5.wp P (Jumps K Q) a w)
    (pass6 : ∀ n, ∀ K : Nat → Act → World → Prop, Hid1 (∀ m a w, m < n → I1 m a w → K l1 a w) → Hid1 (∀ m a w, m < n → I2 m a w → K l2 a w) → Hid1 (∀ m a w, m < n → I3 m a w → K l3 a w) → Hid1 (∀ m a w, m < n → I4 m a w → K l4 a w) → Hid1 (∀ m a w, m < n → I5 m a w → K l5 a w) → Hid1 (∀ m a w, m < n → I6 m a w → K l6 a w) → Hid1 (∀ m a w, m < n → I1 m a w → R1.wp P (Jumps K Q) a w) → Hid1 (∀ m a w, m < n → I2 m a w → R2.wp P (Jumps K Q) a w) → Hid1 (∀ m a w, m < n → I3 m a w → R3.wp P (Jumps K Q) a w) → Hid1 (∀ m a w, m < n → I4 m a w → R4.wp P (Jumps K Q) a w) → Hid1 (∀ m a w, m < n → I5 m a w → R5.wp P (Jumps K Q) a w) → Hid1 (∀ m a w, m < n → I6 m a w → R6.wp P (Jumps K Q) a w) → ∀ a w, I6 n a w → R6.wp P (Jumps K Q) a w)
    : (Code.scope c).wp P Q a w := by
  have ne : ∀ i j, [l1, l2, l3, l4, l5, l6][i]? = [l1, l2, l3, l4, l5, l6][j]? → i < 6 → j < 6 → i = j := fun i j h hi hj => (List.getElem?_inj (by simpa using hi) hd).1 h
  let I : Nat → Nat → Act → World → Prop := fun l => if l = l1 then I1 else if l = l2 then I2 else if l = l3 then I3 else if l = l4 then I4 else if l = l5 then I5 else if l = l6 then I6 else fun _ _ _ => False
  let R : Nat → Option Code := fun l => if l = l1 then some R1 else if l = l2 then some R2 else if l = l3 then some R3 else if l = l4 then some R4 else if l = l5 then some R5 else if l = l6 then some R6 else none
  have eI1 : I l1 = I1 := by simp [I]
  have eR1 : R l1 = some R1 := by simp [R]
  have eI2 : I l2 = I2 := by simp [I, show ¬ l2 = l1 from fun h => absurd (ne 1 0 (by simp [h]) (by omega) (by omega)) (by omega)]
  have eR2 : R l2 = some R2 := by simp [R, show ¬ l2 = l1 from fun h => absurd (ne 1 0 (by simp [h]) (by omega) (by omega)) (by omega)]
  have eI3 : I l3 = I3 := by simp [I, show ¬ l3 = l1 from fun h => absurd (ne 2 0 (by simp [h]) (by omega) (by omega)) (by omega), show ¬ l3 = l2 from fun h => absurd (ne 2 1 (by simp [h]) (by omega) (by omega)) (by omega)]
  have eR3 : R l3 = some R3 := by simp [R, show ¬ l3 = l1 from fun h => absurd (ne 2 0 (by simp [h]) (by omega) (by omega)) (by omega), show ¬ l3 = l2 from fun h => absurd (ne 2 1 (by simp [h]) (by omega) (by omega)) (by omega)]
  have eI4 : I l4 = I4 := by simp [I, show ¬ l4 = l1 from fun h => absurd (ne 3 0 (by simp [h]) (by omega) (by omega)) (by omega), show ¬ l4 = l2 from fun h => absurd (ne 3 1 (by simp [h]) (by omega) (by omega)) (by omega), show ¬ l4 = l3 from fun h => absurd (ne 3 2 (by simp [h]) (by omega) (by omega)) (by omega)]
  have eR4 : R l4 = some R4 := by simp [R, show ¬ l4 = l1 from fun h => absurd (ne 3 0 (by simp [h]) (by omega) (by omega)) (by omega), show ¬ l4 = l2 from fun h => absurd (ne 3 1 (by simp [h]) (by omega) (by omega)) (by omega), show ¬ l4 = l3 from fun h => absurd (ne 3 2 (by simp [h]) (by omega) (by omega)) (by omega)]
  have eI5 : I l5 = I5 := by simp [I, show ¬ l5 = l1 from fun h => absurd (ne 4 0 (by simp [h]) (by omega) (by omega)) (by omega), show ¬ l5 = l2 from fun h => absurd (ne 4 1 (by simp [h]) (by omega) (by omega)) (by omega), show ¬ l5 = l3 from fun h => absurd (ne 4 2 (by simp [h]) (by omega) (by omega)) (by omega), show ¬ l5 = l4 from fun h => absurd (ne 4 3 (by simp [h]) (by omega) (by omega)) (by omega)]
  have eR5 : R l5 = some R5 := by simp [R, show ¬ l5 = l1 from fun h => absurd (ne 4 0 (by simp [h]) (by omega) (by omega)) (by omega), show ¬ l5 = l2 from fun h => absurd (ne 4 1 (by simp [h]) (by omega) (by omega)) (by omega), show ¬ l5 = l3 from fun h => absurd (ne 4 2 (by simp [h]) (by omega) (by omega)) (by omega), show ¬ l5 = l4 from fun h => absurd (ne 4 3 (by simp [h]) (by omega) (by omega)) (by omega)]
  have eI6 : I l6 = I6 := by simp [I, show ¬ l6 = l1 from fun h => absurd (ne 5 0 (by simp [h]) (by omega) (by omega)) (by omega), show ¬ l6 = l2 from fun h => absurd (ne 5 1 (by simp [h]) (by omega) (by omega)) (by omega), show ¬ l6 = l3 from fun h => absurd (ne 5 2 (by simp [h]) (by omega) (by omega)) (by omega), show ¬ l6 = l4 from fun h => absurd (ne 5 3 (by simp [h]) (by omega) (by omega)) (by omega), show ¬ l6 = l5 from fun h => absurd (ne 5 4 (by simp [h]) (by omega) (by omega)) (by omega)]
  have eR6 : R l6 = some R6 := by simp [R, show ¬ l6 = l1 from fun h => absurd (ne 5 0 (by simp [h]) (by omega) (by omega)) (by omega), show ¬ l6 = l2 from fun h => absurd (ne 5 1 (by simp [h]) (by omega) (by omega)) (by omega), show ¬ l6 = l3 from fun h => absurd (ne 5 2 (by simp [h]) (by omega) (by omega)) (by omega), show ¬ l6 = l4 from fun h => absurd (ne 5 3 (by simp [h]) (by omega) (by omega)) (by omega), show ¬ l6 = l5 from fun h => absurd (ne 5 4 (by simp [h]) (by omega) (by omega)) (by omega)]
  have cases_ : ∀ l, (l = l1 ∨ l = l2 ∨ l = l3 ∨ l = l4 ∨ l = l5 ∨ l = l6) ∨ R l = none ∧ ∀ n a w, ¬ I l n a w := by
    intro l
    by_cases q1 : l = l1
    · exact .inl (by simp [q1])
    by_cases q2 : l = l2
    · exact .inl (by simp [q2])
    by_cases q3 : l = l3
    · exact .inl (by simp [q3])
    by_cases q4 : l = l4
    · exact .inl (by simp [q4])
    by_cases q5 : l = l5
    · exact .inl (by simp [q5])
    by_cases q6 : l = l6
    · exact .inl (by simp [q6])
    exact .inr ⟨by simp [R, q1, q2, q3, q4, q5, q6], fun n a w h => by simp [I, q1, q2, q3, q4, q5, q6] at h⟩
  refine wp_scope_all I R ?_ ?_ n0 (fun K hK hF => first K ⟨fun m a w hm h => hK l1 m a w hm (by rw [eI1]; exact h)⟩ ⟨fun m a w hm h => hK l2 m a w hm (by rw [eI2]; exact h)⟩ ⟨fun m a w hm h => hK l3 m a w hm (by rw [eI3]; exact h)⟩ ⟨fun m a w hm h => hK l4 m a w hm (by rw [eI4]; exact h)⟩ ⟨fun m a w hm h => hK l5 m a w hm (by rw [eI5]; exact h)⟩ ⟨fun m a w hm h => hK l6 m a w hm (by rw [eI6]; exact h)⟩ ⟨fun m a w hm h => hF l1 R1 m a w eR1 hm (by rw [eI1]; exact h)⟩ ⟨fun m a w hm h => hF l2 R2 m a w eR2 hm (by rw [eI2]; exact h)⟩ ⟨fun m a w hm h => hF l3 R3 m a w eR3 hm (by rw [eI3]; exact h)⟩ ⟨fun m a w hm h => hF l4 R4 m a w eR4 hm (by rw [eI4]; exact h)⟩ ⟨fun m a w hm h => hF l5 R5 m a w eR5 hm (by rw [eI5]; exact h)⟩ ⟨fun m a w hm h => hF l6 R6 m a w eR6 hm (by rw [eI6]; exact h)⟩) ?_
  · intro l r hr
    rcases cases_ l with (q | q | q | q | q | q) | ⟨h, _⟩
    · rw [q, eR1] at hr; cases hr; rw [q]; exact h1
    · rw [q, eR2] at hr; cases hr; rw [q]; exact h2
    · rw [q, eR3] at hr; cases hr; rw [q]; exact h3
    · rw [q, eR4] at hr; cases hr; rw [q]; exact h4
    · rw [q, eR5] at hr; cases hr; rw [q]; exact h5
    · rw [q, eR6] at hr; cases hr; rw [q]; exact h6
    · rw [h] at hr; cases hr
  · intro l n a w h
    rcases cases_ l with (q | q | q | q | q | q) | ⟨_, h'⟩
    · rw [q]; exact ⟨_, eR1⟩
    · rw [q]; exact ⟨_, eR2⟩
    · rw [q]; exact ⟨_, eR3⟩
    · rw [q]; exact ⟨_, eR4⟩
    · rw [q]; exact ⟨_, eR5⟩
    · rw [q]; exact ⟨_, eR6⟩
    · exact absurd h (h' _ _ _)
  · intro n l r hr K hK hF a w h
    rcases cases_ l with (q | q | q | q | q | q) | ⟨h', _⟩
    · rw [q, eR1] at hr; cases hr; rw [q, eI1] at h; exact pass1 n K ⟨fun m a w hm h => hK l1 m a w hm (by rw [eI1]; exact h)⟩ ⟨fun m a w hm h => hK l2 m a w hm (by rw [eI2]; exact h)⟩ ⟨fun m a w hm h => hK l3 m a w hm (by rw [eI3]; exact h)⟩ ⟨fun m a w hm h => hK l4 m a w hm (by rw [eI4]; exact h)⟩ ⟨fun m a w hm h => hK l5 m a w hm (by rw [eI5]; exact h)⟩ ⟨fun m a w hm h => hK l6 m a w hm (by rw [eI6]; exact h)⟩ ⟨fun m a w hm h => hF l1 R1 m a w eR1 hm (by rw [eI1]; exact h)⟩ ⟨fun m a w hm h => hF l2 R2 m a w eR2 hm (by rw [eI2]; exact h)⟩ ⟨fun m a w hm h => hF l3 R3 m a w eR3 hm (by rw [eI3]; exact h)⟩ ⟨fun m a w hm h => hF l4 R4 m a w eR4 hm (by rw [eI4]; exact h)⟩ ⟨fun m a w hm h => hF l5 R5 m a w eR5 hm (by rw [eI5]; exact h)⟩ ⟨fun m a w hm h => hF l6 R6 m a w eR6 hm (by rw [eI6]; exact h)⟩ a w h
    · rw [q, eR2] at hr; cases hr; rw [q, eI2] at h; exact pass2 n K ⟨fun m a w hm h => hK l1 m a w hm (by rw [eI1]; exact h)⟩ ⟨fun m a w hm h => hK l2 m a w hm (by rw [eI2]; exact h)⟩ ⟨fun m a w hm h => hK l3 m a w hm (by rw [eI3]; exact h)⟩ ⟨fun m a w hm h => hK l4 m a w hm (by rw [eI4]; exact h)⟩ ⟨fun m a w hm h => hK l5 m a w hm (by rw [eI5]; exact h)⟩ ⟨fun m a w hm h => hK l6 m a w hm (by rw [eI6]; exact h)⟩ ⟨fun m a w hm h => hF l1 R1 m a w eR1 hm (by rw [eI1]; exact h)⟩ ⟨fun m a w hm h => hF l2 R2 m a w eR2 hm (by rw [eI2]; exact h)⟩ ⟨fun m a w hm h => hF l3 R3 m a w eR3 hm (by rw [eI3]; exact h)⟩ ⟨fun m a w hm h => hF l4 R4 m a w eR4 hm (by rw [eI4]; exact h)⟩ ⟨fun m a w hm h => hF l5 R5 m a w eR5 hm (by rw [eI5]; exact h)⟩ ⟨fun m a w hm h => hF l6 R6 m a w eR6 hm (by rw [eI6]; exact h)⟩ a w h
    · rw [q, eR3] at hr; cases hr; rw [q, eI3] at h; exact pass3 n K ⟨fun m a w hm h => hK l1 m a w hm (by rw [eI1]; exact h)⟩ ⟨fun m a w hm h => hK l2 m a w hm (by rw [eI2]; exact h)⟩ ⟨fun m a w hm h => hK l3 m a w hm (by rw [eI3]; exact h)⟩ ⟨fun m a w hm h => hK l4 m a w hm (by rw [eI4]; exact h)⟩ ⟨fun m a w hm h => hK l5 m a w hm (by rw [eI5]; exact h)⟩ ⟨fun m a w hm h => hK l6 m a w hm (by rw [eI6]; exact h)⟩ ⟨fun m a w hm h => hF l1 R1 m a w eR1 hm (by rw [eI1]; exact h)⟩ ⟨fun m a w hm h => hF l2 R2 m a w eR2 hm (by rw [eI2]; exact h)⟩ ⟨fun m a w hm h => hF l3 R3 m a w eR3 hm (by rw [eI3]; exact h)⟩ ⟨fun m a w hm h => hF l4 R4 m a w eR4 hm (by rw [eI4]; exact h)⟩ ⟨fun m a w hm h => hF l5 R5 m a w eR5 hm (by rw [eI5]; exact h)⟩ ⟨fun m a w hm h => hF l6 R6 m a w eR6 hm (by rw [eI6]; exact h)⟩ a w h
    · rw [q, eR4] at hr; cases hr; rw [q, eI4] at h; exact pass4 n K ⟨fun m a w hm h => hK l1 m a w hm (by rw [eI1]; exact h)⟩ ⟨fun m a w hm h => hK l2 m a w hm (by rw [eI2]; exact h)⟩ ⟨fun m a w hm h => hK l3 m a w hm (by rw [eI3]; exact h)⟩ ⟨fun m a w hm h => hK l4 m a w hm (by rw [eI4]; exact h)⟩ ⟨fun m a w hm h => hK l5 m a w hm (by rw [eI5]; exact h)⟩ ⟨fun m a w hm h => hK l6 m a w hm (by rw [eI6]; exact h)⟩ ⟨fun m a w hm h => hF l1 R1 m a w eR1 hm (by rw [eI1]; exact h)⟩ ⟨fun m a w hm h => hF l2 R2 m a w eR2 hm (by rw [eI2]; exact h)⟩ ⟨fun m a w hm h => hF l3 R3 m a w eR3 hm (by rw [eI3]; exact h)⟩ ⟨fun m a w hm h => hF l4 R4 m a w eR4 hm (by rw [eI4]; exact h)⟩ ⟨fun m a w hm h => hF l5 R5 m a w eR5 hm (by rw [eI5]; exact h)⟩ ⟨fun m a w hm h => hF l6 R6 m a w eR6 hm (by rw [eI6]; exact h)⟩ a w h
    · rw [q, eR5] at hr; cases hr; rw [q, eI5] at h; exact pass5 n K ⟨fun m a w hm h => hK l1 m a w hm (by rw [eI1]; exact h)⟩ ⟨fun m a w hm h => hK l2 m a w hm (by rw [eI2]; exact h)⟩ ⟨fun m a w hm h => hK l3 m a w hm (by rw [eI3]; exact h)⟩ ⟨fun m a w hm h => hK l4 m a w hm (by rw [eI4]; exact h)⟩ ⟨fun m a w hm h => hK l5 m a w hm (by rw [eI5]; exact h)⟩ ⟨fun m a w hm h => hK l6 m a w hm (by rw [eI6]; exact h)⟩ ⟨fun m a w hm h => hF l1 R1 m a w eR1 hm (by rw [eI1]; exact h)⟩ ⟨fun m a w hm h => hF l2 R2 m a w eR2 hm (by rw [eI2]; exact h)⟩ ⟨fun m a w hm h => hF l3 R3 m a w eR3 hm (by rw [eI3]; exact h)⟩ ⟨fun m a w hm h => hF l4 R4 m a w eR4 hm (by rw [eI4]; exact h)⟩ ⟨fun m a w hm h => hF l5 R5 m a w eR5 hm (by rw [eI5]; exact h)⟩ ⟨fun m a w hm h => hF l6 R6 m a w eR6 hm (by rw [eI6]; exact h)⟩ a w h
    · rw [q, eR6] at hr; cases hr; rw [q, eI6] at h; exact pass6 n K ⟨fun m a w hm h => hK l1 m a w hm (by rw [eI1]; exact h)⟩ ⟨fun m a w hm h => hK l2 m a w hm (by rw [eI2]; exact h)⟩ ⟨fun m a w hm h => hK l3 m a w hm (by rw [eI3]; exact h)⟩ ⟨fun m a w hm h => hK l4 m a w hm (by rw [eI4]; exact h)⟩ ⟨fun m a w hm h => hK l5 m a w hm (by rw [eI5]; exact h)⟩ ⟨fun m a w hm h => hK l6 m a w hm (by rw [eI6]; exact h)⟩ ⟨fun m a w hm h => hF l1 R1 m a w eR1 hm (by rw [eI1]; exact h)⟩ ⟨fun m a w hm h => hF l2 R2 m a w eR2 hm (by rw [eI2]; exact h)⟩ ⟨fun m a w hm h => hF l3 R3 m a w eR3 hm (by rw [eI3]; exact h)⟩ ⟨fun m a w hm h => hF l4 R4 m a w eR4 hm (by rw [eI4]; exact h)⟩ ⟨fun m a w hm h => hF l5 R5 m a w eR5 hm (by rw [eI5]; exact h)⟩ ⟨fun m a w hm h => hF l6 R6 m a w eR6 hm (by rw [eI6]; exact h)⟩ a w h
    · rw [h'] at hr; cases hr

end
end Go.Proofs.Ytajdnphpjlfajaa.Scopes
