/- Code: regions, ways, loops, labels. No condition. -/
import Derived.ScopeJumps
import Derived.Test.YtjhganbjbiihoaaDoorClauses0
import Derived.Test.YtjhganbjbiihoaaDoorClauses1
import Derived.Test.YtjhganbjbiihoaaDoorClauses2
import Derived.Test.YtjhganbjbiihoaaDoorClauses3
import Derived.Test.YtjhganbjbiihoaaDoorClauses4
import Derived.Test.YtjhganbjbiihoaaDoorClauses5
import Derived.Test.YtjhganbjbiihoaaDoorClauses6
import Derived.Test.YtjhganbjbiihoaaDoorClauses7
import Derived.Test.YtjhganbjbiihoaaDoorClauses8
set_option linter.unusedVariables false
set_option linter.unusedSimpArgs false
namespace Go.Ab
open Go

/-- The slots that are kept behind each region of a function (and, at number 1000000, those that a way leaves). -/
abbrev Keep := Nat → List Nat
def runDraw (E : Ev) (C : Caller) (ops : Array Oper) : List Oper → St → Option (St × List (List Loc × List Loc))
  | [], σ => some (σ, [])
  | o :: r, σ => match (guardP E ops o).run C σ with
    | some σ1 => match runDraw E C ops r σ1 with
      | some (σ2, ls) => some (σ2, (guardP E ops o).logs C σ :: ls)
      | none => none
    | none => none
def regionEv (E : Ev) (C : Caller) (K : Keep) (id : Nat) (ops : Array Oper) (draw : Bool) (s : Sl) : Option Sl :=
  match draw with
  | true => match runDraw E C ops ops.toList (unpackA E.N s) with
    | some (σ, ls) => if edgesOk ops.toList 0 && pairsOk (predsL ops.toList []) ls then gatherA E.N (cvAt E.cv id) σ (K id) else none
    | none => none
  | false => match runOps E C ops ops.toList (unpackA E.N s) with
    | some σ => gatherA E.N (cvAt E.cv id) σ (K id)
    | none => none
inductive Out where
  | norm (s : Sl)
  | exit (id : Nat) (s : Sl)
  | goto (l : Nat) (s : Sl)
  | ret (s : Sl)
def lookS (s : Sl) (t : Nat) : IV := assoc .dead s t
def leaveS (K : Keep) (s : Sl) (t : Nat) : Sl := if (K 1000000).contains t then s else s.filter fun p => p.1 != t

def evS (E : Ev) (C : Caller) (K : Keep) (Jl : Code → Sl → Option Out) (Jg : Code → Code → Sl → Option Out) : Code → Sl → Option Out
  | .skip, s => some (.norm s)
  | .region id ops draw, s => match regionEv E C K id ops draw s with
    | some s' => some (.norm s')
    | none => none
  | .seq a b, s => match evS E C K Jl Jg a s with
    | some (.norm s') => evS E C K Jl Jg b s'
    | r => r
  | .cond (.tmp t) x y, s => match lookS s t with
    | .d (.bool b) => if b = true then evS E C K Jl Jg x (leaveS K s t) else evS E C K Jl Jg y (leaveS K s t)
    | _ => none
  | .block id c, s => match evS E C K Jl Jg c s with
    | some (.exit i s') => if i = id then some (.norm s') else some (.exit i s')
    | r => r
  | .loop c, s => match evS E C K Jl Jg c s with
    | some (.norm s') => Jl c s'
    | r => r
  | .exit id, s => some (.exit id s)
  | .scope c, s => match evS E C K Jl Jg c s with
    | some (.goto l s') => match findLabel c l with
      | some rest => Jg c rest s'
      | none => some (.goto l s')
    | r => r
  | .label _, s => some (.norm s)
  | .goto l, s => some (.goto l s)
  | .ret, s => some (.ret s)
  | _, _ => none
def evJ (E : Ev) (C : Caller) (K : Keep) : Nat → (Code → Sl → Option Out) × (Code → Code → Sl → Option Out)
  | 0 => (fun _ _ => none, fun _ _ _ => none)
  | n + 1 => (fun c s => match evS E C K (evJ E C K n).1 (evJ E C K n).2 c s with
    | some (.norm s') => (evJ E C K n).1 c s'
    | r => r, fun c rest s => match evS E C K (evJ E C K n).1 (evJ E C K n).2 rest s with
    | some (.goto l s') => match findLabel c l with
      | some rest' => (evJ E C K n).2 c rest' s'
      | none => some (.goto l s')
    | r => r)

section
variable {X : Cx} {E : Ev} {C : Caller}

/-- What the evaluator told has come about. -/
def OutQ (X : Cx) (out : Out) (Q : Exit → Act → World → Prop) : Prop :=
  match out with
  | .norm s => ∀ H' a w, SRel X H' s a w → Q .normal a w
  | .exit id s => ∀ H' a w, SRel X H' s a w → Q (.exit id) a w
  | .goto l s => ∀ H' a w, SRel X H' s a w → Q (.goto l) a w
  | .ret s => ∀ H' a w, SRel X H' s a w → Q .ret a w

theorem runDraw_to {ops : Array Oper} : ∀ (l : List Oper) (i : Nat) {σ σ' : St} {ls : List (List Loc × List Loc)} {ℓ : Nat → List Loc × List Loc}, (∀ j o, l[j]? = some o → ops[i + j]? = some o) → runDraw E C ops l σ = some (σ', ls) → (∀ j, j < l.length → ℓ (i + j) = ls.getD j ([], [])) → RunsTo C (fun i => match ops[i]? with | some o => guardP E ops o | none => .ret) ℓ (List.range' i l.length) σ σ' ∧ ls.length = l.length
  | [], i, σ, σ', ls, ℓ, _, h, _ => by
    simp only [runDraw, Option.some.injEq, Prod.mk.injEq] at h
    obtain ⟨rfl, rfl⟩ := h
    exact ⟨St.eqv.refl _, rfl⟩
  | o :: r, i, σ, σ', ls, ℓ, hl, h, hls => by
    unfold runDraw at h
    split at h
    · rename_i σ1 h1
      split at h
      · rename_i σ2 ls2 h2
        simp only [Option.some.injEq, Prod.mk.injEq] at h
        obtain ⟨rfl, rfl⟩ := h
        have ho := hl 0 o rfl
        rw [Nat.add_zero] at ho
        obtain ⟨k1, k2⟩ := runDraw_to r (i + 1) (ℓ := ℓ) (fun j o' hj => by have := hl (j + 1) o' (by simpa using hj); rw [Nat.add_assoc, Nat.add_comm 1 j]; exact this) h2 (fun j hj => by
          have := hls (j + 1) (by simp; omega)
          rw [Nat.add_assoc, Nat.add_comm 1 j, this]; simp)
        refine ⟨?_, by simp [k2]⟩
        rw [List.length_cons, List.range'_succ]
        refine ⟨σ1, by simp only [ho]; exact h1, ?_, k1⟩
        have := hls 0 (by simp)
        simp only [ho]
        rw [Nat.add_zero] at this
        rw [this]; rfl
      · cases h
    · cases h
theorem regionEv_ok (k : Cxk X E) (hm : X.P.follows .mixedOrders = true) (hC : CSound X.P E.G C) {K : Keep} {id : Nat} {ops : Array Oper} {draw : Bool} {H : Fz} {s s' : Sl} {a : Act} {w : World} (r : SRel X H s a w) (h : regionEv E C K id ops draw s = some s') {Q : Exit → Act → World → Prop} (hQ : ∀ H' a' w', SRel X H' s' a' w' → Q .normal a' w') : (Code.region id ops draw).wp X.P Q a w := by
  obtain ⟨L, r1, _⟩ := unpackA_rel r
  rw [← k.n] at r1
  unfold regionEv at h
  split at h
  · -- drawn
    split at h
    · rename_i σ ls h1
      split at h
      case isFalse => cases h
      rename_i hok
      simp only [Bool.and_eq_true] at hok
      have hfin : ∀ H' L' a' w', Rel X H' L' σ a' w' → Q .normal a' w' := fun H' L' a' w' r' => by
        obtain ⟨H2, _, r2⟩ := gatherA_rel r' (by rw [← k.n]; exact h)
        exact hQ _ _ _ r2
      obtain ⟨k1, k2⟩ := runDraw_to (E := E) (C := C) (ops := ops) ops.toList 0 (ℓ := fun i => ls.getD i ([], [])) (fun j o hj => by rw [Nat.zero_add]; simpa using hj) h1 (fun j _ => by rw [Nat.zero_add])
      refine wp_region_any hm ?_
      refine draw_ok k hC hfin (ℓ := fun i => ls.getD i ([], [])) hok.1 (fun i j hj hi => ?_) ops.size _ (by simp) ?_ (fun k' o hk' => by
        rw [Array.getD_eq_getD_getElem?] at hk'
        by_cases h5 : k' < ops.size
        · simp [h5] at hk'
        · simp [Array.getElem?_eq_none (show (Array.replicate ops.size false).size ≤ k' by simp; omega)] at hk') (r1.drew _) ?_
      · have hp := hok.2
        unfold pairsOk at hp
        have hlen : ls.length = ops.size := by rw [k2]; simp
        have h5 := List.all_eq_true.1 hp i (List.mem_range.2 (by omega))
        have h6 := List.all_eq_true.1 h5 j (List.mem_range.2 hj)
        simp only [Bool.or_eq_true, List.contains_eq_mem, decide_eq_true_eq] at h6
        rcases h6 with h6 | h6
        · exact .inl (predsL_ahead ops ops.toList [] (fun i o ho => by simpa using ho) (by simp) i j h6)
        · exact .inr h6
      · have : rest ops.size (Array.replicate ops.size false) = List.range ops.size := by
          unfold rest
          rw [List.filter_eq_self]
          intro j hj
          have := List.mem_range.1 hj
          simp [this]
        rw [this]; simp
      · have : rest ops.size (Array.replicate ops.size false) = List.range' 0 ops.toList.length := by
          unfold rest
          rw [List.filter_eq_self.2]
          · rw [List.range_eq_range']; simp
          · intro j hj
            have := List.mem_range.1 hj
            simp [this]
        rw [this]
        exact k1
    · cases h
  · split at h
    · rename_i σ h1
      have hfin : ∀ H' L' a' w', Rel X H' L' σ a' w' → Q .normal a' w' := fun H' L' a' w' r' => by
        obtain ⟨H2, _, r2⟩ := gatherA_rel r' (by rw [← k.n]; exact h)
        exact hQ _ _ _ r2
      refine wp_region ?_
      rw [List.range_eq_range']
      exact runOps_ok k hC hfin ops.size 0 (by omega) r1 (by simpa using h1)
    · cases h

/-! ### Code -/
theorem erase_rep {H : Fz} {w : World} {f : Nat → Value} (q : Nat → Bool) : ∀ {s : Sl} {bs : List Nat}, IV.RepL H w (s.map (·.2)) (s.map fun p => f p.1) bs → ∃ bs', IV.RepL H w ((s.filter fun p => q p.1).map (·.2)) ((s.filter fun p => q p.1).map fun p => f p.1) bs' ∧ bs'.Sublist bs
  | [], bs, h => ⟨bs, h, List.Sublist.refl _⟩
  | (i, x) :: s, bs, h => by
    simp only [List.map_cons] at h
    unfold IV.RepL at h
    obtain ⟨v, r, b1, b2, he, rfl, h1, h2⟩ := h
    simp only [List.cons.injEq] at he
    obtain ⟨rfl, rfl⟩ := he
    obtain ⟨bs', h3, h4⟩ := erase_rep q h2
    by_cases hq : q i = true
    · rw [List.filter_cons, if_pos hq]
      refine ⟨b1 ++ bs', ?_, List.Sublist.append (List.Sublist.refl _) h4⟩
      simp only [List.map_cons]
      unfold IV.RepL
      exact ⟨_, _, b1, bs', rfl, rfl, h1, h3⟩
    · rw [List.filter_cons, if_neg hq]
      exact ⟨bs', h3, h4.trans (List.sublist_append_right _ _)⟩
theorem leaveS_rel {H : Fz} {s : Sl} {a : Act} {w : World} (r : SRel X H s a w) (K : Keep) (t : Nat) : SRel X H (leaveS K s t) a w := by
  unfold leaveS
  split
  · exact r
  · obtain ⟨bs, h1, h2, h3⟩ := r.rep
    obtain ⟨bs', h4, h5⟩ := erase_rep (f := fun i => a.tmps.getD i undef) (fun i => i != t) h1
    exact ⟨r.le, r.sub, r.fr, r.defers, r.size, r.lk, ⟨bs', h4, h2.sublist h5, fun b hb => h3 b (h5.subset hb)⟩, r.fz, fun k x hx => r.al k x (List.mem_filter.1 hx).1⟩
theorem lookS_rep {H : Fz} {w : World} {f : Nat → Value} {t : Nat} {x : D} : ∀ {s : Sl} {bs : List Nat}, IV.RepL H w (s.map (·.2)) (s.map fun p => f p.1) bs → lookS s t = .d x → x.RepV H (f t)
  | [], bs, h, hl => by simp [lookS, assoc] at hl
  | (i, y) :: s, bs, h, hl => by
    simp only [List.map_cons] at h
    unfold IV.RepL at h
    obtain ⟨v, r, b1, b2, he, rfl, h1, h2⟩ := h
    simp only [List.cons.injEq] at he
    obtain ⟨rfl, rfl⟩ := he
    unfold lookS assoc at hl
    by_cases hi : i = t
    · subst hi
      rw [if_pos rfl] at hl
      subst hl
      unfold IV.Rep at h1
      exact h1.1
    · rw [if_neg hi] at hl
      exact lookS_rep h2 hl

/-- The rest of a scope, from a label on. -/
def ScopeRun (P : Program) (c rest : Code) (Q : Exit → Act → World → Prop) (a : Act) (w : World) : Prop :=
  ∀ (b : Frame) (k : List Item) (cs : List Frame), ∃ e a' w', Q e a' w' ∧ Arrives P (lone (b.at a (.code rest :: .inScope c :: k)) cs w) b k cs e a' w'
/-- By a goto to a label of the scope: the rest from there; to another one: out. -/
def ScopeQ (P : Program) (c : Code) (Q : Exit → Act → World → Prop) : Exit → Act → World → Prop
  | .goto l, a, w => match findLabel c l with
    | some rest => ScopeRun P c rest Q a w
    | none => Q (.goto l) a w
  | e, a, w => Q e a w
theorem scopeRun_of {P : Program} {c rest : Code} {Q : Exit → Act → World → Prop} {a : Act} {w : World} (h : rest.wp P (ScopeQ P c Q) a w) : ScopeRun P c rest Q a w := by
  intro b k cs
  obtain ⟨e, a₁, w₁, hq, harr⟩ := h b (.inScope c :: k) cs
  cases e with
  | normal => exact ⟨.normal, a₁, w₁, hq, Steps.trans harr (.one step_inScope)⟩
  | exit id => exact ⟨.exit id, a₁, w₁, hq, fun k' hk => harr k' (by simp [exitTo, hk])⟩
  | goto l =>
    simp only [ScopeQ] at hq
    split at hq
    · rename_i rest' hl
      obtain ⟨e₂, a₂, w₂, hq₂, harr₂⟩ := hq b k cs
      exact ⟨e₂, a₂, w₂, hq₂, .of_steps (harr _ (by simp [gotoIn, hl])) harr₂⟩
    · rename_i hl
      exact ⟨.goto l, a₁, w₁, hq, fun k' hk => harr k' (by simp [gotoIn, hl, hk])⟩
  | ret => exact ⟨_, a₁, w₁, hq, harr⟩
  | panic ch => exact ⟨_, a₁, w₁, hq, harr⟩
  | outgrown => exact ⟨_, a₁, w₁, hq, harr⟩
theorem scope_of {P : Program} {c : Code} {Q : Exit → Act → World → Prop} {a : Act} {w : World} (h : ScopeRun P c c Q a w) : (Code.scope c).wp P Q a w := by
  intro b k cs
  obtain ⟨e, a₁, w₁, hq, harr⟩ := h b k cs
  exact ⟨e, a₁, w₁, hq, .of_steps (.one step_scope) harr⟩
/-- A loop, from its head on. -/
def LoopRun (P : Program) (c : Code) (Q : Exit → Act → World → Prop) (a : Act) (w : World) : Prop :=
  ∀ (b : Frame) (k : List Item) (cs : List Frame), ∃ e a' w', Q e a' w' ∧ Arrives P (lone (b.at a (.code c :: .inLoop c :: k)) cs w) b k cs e a' w'
theorem loopRun_of {P : Program} {c : Code} {Q : Exit → Act → World → Prop} {a : Act} {w : World} (h : c.wp P (Exit.then (LoopRun P c Q) Q) a w) : LoopRun P c Q a w := by
  intro b k cs
  obtain ⟨e, a₁, w₁, hq, harr⟩ := h b (.inLoop c :: k) cs
  cases e with
  | normal =>
    obtain ⟨e₂, a₂, w₂, hq₂, harr₂⟩ := hq b k cs
    exact ⟨e₂, a₂, w₂, hq₂, .of_steps (Steps.trans harr (.one step_inLoop)) harr₂⟩
  | exit id => exact ⟨_, a₁, w₁, hq, .pass (x := .inLoop c) rfl (fun _ _ => .inl (by simp)) harr⟩
  | goto l => exact ⟨_, a₁, w₁, hq, .pass (x := .inLoop c) rfl (fun _ _ => .inl (by simp)) harr⟩
  | ret => exact ⟨_, a₁, w₁, hq, .pass (x := .inLoop c) rfl (fun _ _ => .inl (by simp)) harr⟩
  | panic ch => exact ⟨_, a₁, w₁, hq, .pass (x := .inLoop c) rfl (fun _ _ => .inl (by simp)) harr⟩
  | outgrown => exact ⟨_, a₁, w₁, hq, .pass (x := .inLoop c) rfl (fun _ _ => .inl (by simp)) harr⟩
theorem loop_of {P : Program} {c : Code} {Q : Exit → Act → World → Prop} {a : Act} {w : World} (h : LoopRun P c Q a w) : (Code.loop c).wp P Q a w := by
  intro b k cs
  obtain ⟨e, a₁, w₁, hq, harr⟩ := h b k cs
  exact ⟨e, a₁, w₁, hq, .of_steps (.one step_loop) harr⟩

/-- What the two ways on, around a loop and from a label, tell is what the machine does. -/
structure JOk (X : Cx) (Jl : Code → Sl → Option Out) (Jg : Code → Code → Sl → Option Out) : Prop where
  l : ∀ c s out, Jl c s = some out → ∀ H a w, SRel X H s a w → ∀ Q, OutQ X out Q → LoopRun X.P c Q a w
  g : ∀ c rest s out, Jg c rest s = some out → ∀ H a w, SRel X H s a w → ∀ Q, OutQ X out Q → ScopeRun X.P c rest Q a w
theorem evS_ok (k : Cxk X E) (hm : X.P.follows .mixedOrders = true) (hC : CSound X.P E.G C) {K : Keep} {Jl : Code → Sl → Option Out} {Jg : Code → Code → Sl → Option Out} (hJ : JOk X Jl Jg) : ∀ (c : Code) (s : Sl) (out : Out), evS E C K Jl Jg c s = some out → ∀ H a w, SRel X H s a w → ∀ Q, OutQ X out Q → c.wp X.P Q a w
  | .skip, s, out, h, H, a, w, r, Q, hQ => by
    simp only [evS, Option.some.injEq] at h
    subst h
    exact wp_skip (hQ _ _ _ r)
  | .region id ops draw, s, out, h, H, a, w, r, Q, hQ => by
    unfold evS at h
    split at h
    · rename_i s' h1
      simp only [Option.some.injEq] at h
      subst h
      exact regionEv_ok k hm hC r h1 fun H' a' w' r' => hQ _ _ _ r'
    · cases h
  | .seq x y, s, out, h, H, a, w, r, Q, hQ => by
    unfold evS at h
    split at h
    · rename_i s' h1
      refine wp_seq (evS_ok k hm hC hJ x s _ h1 H a w r _ ?_)
      intro H' a' w' r'
      exact evS_ok k hm hC hJ y s' out h H' a' w' r' Q hQ
    · rename_i hn
      refine wp_seq (evS_ok k hm hC hJ x s out h H a w r _ ?_)
      cases out with
      | norm s' => exact (hn _ h).elim
      | exit id s' => exact hQ
      | goto l s' => exact hQ
      | ret s' => exact hQ
  | .cond c x y, s, out, h, H, a, w, r, Q, hQ => by
    cases c with
    | tmp t =>
      unfold evS at h
      split at h
      · rename_i b hb
        obtain ⟨bs, h1, _⟩ := r.rep
        have hv := lookS_rep (f := fun i => a.tmps.getD i undef) h1 hb
        have hv' : a.eval (.tmp t) = .bool b := by simpa [D.RepV, D.Rep, Act.eval] using hv
        refine wp_cond hv' ?_
        cases b with
        | true =>
          simp only [if_true] at h ⊢
          exact evS_ok k hm hC hJ x _ out h H a w (leaveS_rel r K t) Q hQ
        | false =>
          simp only [Bool.false_eq_true, if_false] at h ⊢
          exact evS_ok k hm hC hJ y _ out h H a w (leaveS_rel r K t) Q hQ
      · cases h
    | _ => simp [evS] at h
  | .block id c, s, out, h, H, a, w, r, Q, hQ => by
    unfold evS at h
    refine wp_block ?_
    split at h
    · rename_i i s' h1
      refine evS_ok k hm hC hJ c s _ h1 H a w r _ ?_
      split at h
      · rename_i hi
        simp only [Option.some.injEq] at h
        subst h
        intro H' a' w' r'
        simp only [Exit.inBlock, hi, if_true]
        exact hQ _ _ _ r'
      · rename_i hi
        simp only [Option.some.injEq] at h
        subst h
        intro H' a' w' r'
        simp only [Exit.inBlock, hi, if_false]
        exact hQ _ _ _ r'
    · rename_i hn
      refine evS_ok k hm hC hJ c s out h H a w r _ ?_
      cases out with
      | norm s' => exact hQ
      | exit i s' => exact (hn _ _ h).elim
      | goto l s' => exact hQ
      | ret s' => exact hQ
  | .loop c, s, out, h, H, a, w, r, Q, hQ => by
    unfold evS at h
    refine loop_of (loopRun_of ?_)
    split at h
    · rename_i s' h1
      refine evS_ok k hm hC hJ c s _ h1 H a w r _ ?_
      intro H' a' w' r'
      exact hJ.l c s' out h H' a' w' r' Q hQ
    · rename_i hn
      refine evS_ok k hm hC hJ c s out h H a w r _ ?_
      cases out with
      | norm s' => exact (hn _ h).elim
      | exit i s' => exact hQ
      | goto l s' => exact hQ
      | ret s' => exact hQ
  | .rangeFunc _ _ _ _, s, out, h, H, a, w, r, Q, hQ => by simp [evS] at h
  | .exit id, s, out, h, H, a, w, r, Q, hQ => by
    simp only [evS, Option.some.injEq] at h
    subst h
    exact wp_exit (hQ _ _ _ r)
  | .scope c, s, out, h, H, a, w, r, Q, hQ => by
    unfold evS at h
    refine scope_of (scopeRun_of ?_)
    split at h
    · rename_i l s' h1
      refine evS_ok k hm hC hJ c s _ h1 H a w r _ ?_
      intro H' a' w' r'
      simp only [ScopeQ]
      split at h
      · rename_i rest hr
        (try rw [hr])
        exact hJ.g c rest s' out h H' a' w' r' Q hQ
      · rename_i hr
        (try rw [hr])
        simp only [Option.some.injEq] at h
        subst h
        exact hQ _ _ _ r'
    · rename_i hn
      refine evS_ok k hm hC hJ c s out h H a w r _ ?_
      cases out with
      | norm s' => exact hQ
      | exit i s' => exact hQ
      | goto l s' => exact (hn _ _ h).elim
      | ret s' => exact hQ
  | .label l, s, out, h, H, a, w, r, Q, hQ => by
    simp only [evS, Option.some.injEq] at h
    subst h
    exact wp_label (hQ _ _ _ r)
  | .goto l, s, out, h, H, a, w, r, Q, hQ => by
    simp only [evS, Option.some.injEq] at h
    subst h
    exact wp_goto (hQ _ _ _ r)
  | .ret, s, out, h, H, a, w, r, Q, hQ => by
    simp only [evS, Option.some.injEq] at h
    subst h
    exact wp_ret (hQ _ _ _ r)
  | .refuse _, s, out, h, H, a, w, r, Q, hQ => by simp [evS] at h
theorem evJ_ok (k : Cxk X E) (hm : X.P.follows .mixedOrders = true) (hC : CSound X.P E.G C) {K : Keep} : ∀ n : Nat, JOk X (evJ E C K n).1 (evJ E C K n).2
  | 0 => ⟨fun c s out h => by simp [evJ] at h, fun c rest s out h => by simp [evJ] at h⟩
  | n + 1 => by
    have ih := evJ_ok k hm hC (K := K) n
    refine ⟨fun c s out h H a w r Q hQ => ?_, fun c rest s out h H a w r Q hQ => ?_⟩
    · simp only [evJ] at h
      refine loopRun_of ?_
      split at h
      · rename_i s' h1
        refine evS_ok k hm hC ih c s _ h1 H a w r _ ?_
        intro H' a' w' r'
        exact ih.l c s' out h H' a' w' r' Q hQ
      · rename_i hn
        refine evS_ok k hm hC ih c s out h H a w r _ ?_
        cases out with
        | norm s' => exact (hn _ h).elim
        | exit i s' => exact hQ
        | goto l s' => exact hQ
        | ret s' => exact hQ
    · simp only [evJ] at h
      refine scopeRun_of ?_
      split at h
      · rename_i l s' h1
        refine evS_ok k hm hC ih rest s _ h1 H a w r _ ?_
        intro H' a' w' r'
        simp only [ScopeQ]
        split at h
        · rename_i rest' hr
          (try rw [hr])
          exact ih.g c rest' s' out h H' a' w' r' Q hQ
        · rename_i hr
          (try rw [hr])
          simp only [Option.some.injEq] at h
          subst h
          exact hQ _ _ _ r'
      · rename_i hn
        refine evS_ok k hm hC ih rest s out h H a w r _ ?_
        cases out with
        | norm s' => exact hQ
        | exit i s' => exact hQ
        | goto l s' => exact (hn _ _ h).elim
        | ret s' => exact hQ
end
end Go.Ab

/- Functions: the evaluator of a program's functions, and that what it tells of a call is what the machine does. No condition. -/
set_option linter.unusedVariables false
set_option linter.unusedSimpArgs false
namespace Go.Ab
open Go

structure FnD where
  ntmps : Nat
  results : List ResultVar
  body : Code
  keep : Keep
  cut : Bool
  cv : List (Nat × Cv)
structure Fx where
  T : Tab
  G : Globs
  code : FuncId → Option FnD
  prim : FuncId → Option (List IV → Option (IV × List IV))

def lentI : IV → Bool
  | .dbox _ _ _ => true
  | .ptr _ _ _ => true
  | .fn _ (_ :: _) => true
  | .lrow _ _ _ _ => true
  | _ => false
def okArg : IV → Bool
  | .d _ => true
  | .dead => true
  | .dptr _ => true
  | .dbox _ _ _ => true
  | .ptr _ _ _ => true
  | .fn _ _ => true
  | .own _ _ _ _ => true
  | .lrow _ _ _ _ => true
  | _ => false
/-- What is left of an argument that was given away, or was looked at alone. -/
def leftI : IV → IV
  | .own _ _ _ _ => .dead
  | a => a
def lkFrom : Nat → List IV → List Nat
  | _, [] => []
  | i, a :: r => if lentI a then i :: lkFrom (i + 1) r else lkFrom (i + 1) r
/-- Variables that come back as data. -/
def lkData : Nat → List IV → List Nat
  | _, [] => []
  | i, a :: r => match a with
    | .ptr _ _ _ => lkData (i + 1) r
    | .lrow _ _ _ _ => lkData (i + 1) r
    | a => if lentI a then i :: lkData (i + 1) r else lkData (i + 1) r
mutual
def shp : IV → IV → Bool
  | .d _, .d _ => true
  | .d _, .dptr _ => true
  | .d _, .dead => true
  | .dptr _, .d _ => true
  | .dptr _, .dptr _ => true
  | .dptr _, .dead => true
  | .dead, .dead => true
  | .dead, .d _ => true
  | .dead, .dptr _ => true
  | .dbox _ _ _, .dbox _ _ _ => true
  | .ptr _ _ _, .ptr _ _ _ => true
  | .fn _ cs, .fn _ ds => shpL cs ds
  | .lrow _ _ _ _, .own _ _ _ _ => true
  | _, _ => false
def shpL : List IV → List IV → Bool
  | [], [] => true
  | a :: azs, b :: bs => shp a b && shpL azs bs
  | _, _ => false
end
def mergeO : List IV → List IV → List IV
  | [], _ => []
  | a :: r, os => if lentI a then (match os with | o :: os => o :: mergeO r os | [] => a :: mergeO r []) else leftI a :: mergeO r os
def resV (T : Tab) (σ : St) : ResultVar → Option Val
  | .tmp t => some (σ.getS t)
  | .cell a ty => match σ.getS a with
    | .ptr t 0 => match T.get ty with
      | some td => match σ.getT t with
        | .box _ cells => if isAggT td then (if cells.length = td.size then some (mkAgg cells) else none) else match cells with
          | [x] => some x
          | _ => none
        | .dbox _ cells => if isAggT td then (if cells.length = td.size then some (.d (.agg cells)) else none) else match cells with
          | [x] => some (.d x)
          | _ => none
        | _ => none
      | none => none
    | _ => none
def resL (T : Tab) (σ : St) : List ResultVar → Option (List Val)
  | [] => some []
  | r :: rs => match resV T σ r with
    | some x => match resL T σ rs with
      | some xs => some (x :: xs)
      | none => none
    | none => none
def oneI : List IV → IV
  | [x] => x
  | xs => .tup xs
def finF (F : Fx) (C : Caller) (fn : FnD) (args : List IV) (s : Sl) : Option (IV × List IV) :=
  let lk := lkFrom 0 args
  match (argL false ((lkData 0 args).map (unpackS s).getS) fun _ _ _ => .ret).run C (unpackS s) with
  | some σ1 => match resL F.T σ1 fn.results with
    | some rv =>
      let σ2 := freezeT σ1 (if fn.cut then cutT rv else [])
      let σ3 := freezeT σ2 (dups (toksL σ2 rv))
      if (toksL σ3 (lk.map σ3.getS ++ rv)).Nodup ∧ shpL (args.filter lentI) (packL σ3 (lk.map σ3.getS)) = true then
        some (oneI (packL σ3 rv), mergeO args (packL σ3 (lk.map σ3.getS)))
      else none
    | none => none
  | none => none
def evFn (F : Fx) (C : Caller) (n : Nat) (fn : FnD) (args : List IV) : Option (IV × List IV) :=
  if args.length ≤ fn.ntmps ∧ args.all okArg = true then
    match evS ⟨F.T, F.G, fn.ntmps, lkFrom 0 args, fn.cv⟩ C fn.keep (evJ ⟨F.T, F.G, fn.ntmps, lkFrom 0 args, fn.cv⟩ C fn.keep n).1 (evJ ⟨F.T, F.G, fn.ntmps, lkFrom 0 args, fn.cv⟩ C fn.keep n).2 fn.body ((List.range args.length).zip args) with
    | some (.norm s) => finF F C fn args s
    | some (.ret s) => finF F C fn args s
    | _ => none
  else none
def evF (F : Fx) : Nat → Caller
  | 0 => fun _ _ => none
  | n + 1 => fun f args => match F.prim f with
    | some p => p args
    | none => match F.code f with
      | some fn => evFn F (evF F n) n fn args
      | none => none

theorem repD_bs {H H' : Fz} {w w' : World} {x : IV} {v : Value} {bs : List Nat} (h : IV.Rep H w x v bs) (hx : okArg x = true) (hl : lentI x = false) (hle : H.le H') : IV.Rep H' w' (leftI x) v [] := by
  cases x <;> simp [okArg, lentI] at hx hl
  · unfold IV.Rep at h ⊢; unfold leftI; rfl
  · unfold IV.Rep at h; unfold leftI IV.Rep; exact ⟨D.RepV.le hle h.1, rfl⟩
  · unfold leftI IV.Rep; rfl
  · unfold IV.Rep at h
    obtain ⟨⟨a, cs, h1, h2, h3, h4⟩, h5⟩ := h
    unfold leftI IV.Rep; exact ⟨⟨a, cs, h1, D.RepL.le hle _ _ h2, h3.le hle, h4⟩, rfl⟩
  · rename_i f caps
    unfold IV.Rep at h
    obtain ⟨arr, h1, h2⟩ := h
    cases caps with
    | cons c cs => simp [lentI] at hl
    | nil =>
      unfold IV.RepL at h2
      unfold leftI IV.Rep
      refine ⟨arr, h1, ?_⟩
      unfold IV.RepL
      exact ⟨h2.1, rfl⟩
theorem merge_rep {H H' : Fz} {w w' : World} (hle : H.le H') {f : Nat → Value} : ∀ (args : List IV) (i : Nat) {vs : List Value} {bs : List Nat} {os : List IV} {bs' : List Nat}, IV.RepL H w args vs bs → args.all okArg = true → (∀ j x v, args[j]? = some x → lentI x = true → vs[j]? = some v → f (i + j) = v) →
    IV.RepL H' w' os ((lkFrom i args).map f) bs' → shpL (args.filter lentI) os = true → IV.RepL H' w' (mergeO args os) vs bs'
  | [], i, vs, bs, os, bs', h, _, _, ho, hs => by
    unfold IV.RepL at h
    obtain ⟨rfl, rfl⟩ := h
    cases os with
    | cons o os => simp [shpL] at hs
    | nil =>
      unfold lkFrom IV.RepL at ho
      unfold mergeO IV.RepL
      exact ⟨rfl, ho.2⟩
  | a :: r, i, vs, bs, os, bs', h, hk, hf, ho, hs => by
    unfold IV.RepL at h
    obtain ⟨v, vs', b1, b2, rfl, rfl, h1, h2⟩ := h
    simp only [List.all_cons, Bool.and_eq_true] at hk
    have hf' : ∀ j x u, r[j]? = some x → lentI x = true → vs'[j]? = some u → f (i + 1 + j) = u := fun j x u hx hl hu => by
      have := hf (j + 1) x u (by simpa using hx) hl (by simpa using hu)
      rw [← this]; congr 1; omega
    cases hl : lentI a with
    | true =>
      have e1 : lkFrom i (a :: r) = i :: lkFrom (i + 1) r := by simp [lkFrom, hl]
      have e2 : (a :: r).filter lentI = a :: r.filter lentI := by simp [hl]
      rw [e2] at hs
      rw [e1, List.map_cons] at ho
      cases os with
      | nil => simp [shpL] at hs
      | cons o os =>
        simp only [shpL, Bool.and_eq_true] at hs
        unfold IV.RepL at ho
        obtain ⟨v', r', c1, c2, e3, rfl, g1, g2⟩ := ho
        simp only [List.cons.injEq] at e3
        obtain ⟨rfl, rfl⟩ := e3
        have hv : f i = v := by have := hf 0 a v rfl hl rfl; simpa using this
        rw [hv] at g1
        have k1 := merge_rep hle r (i + 1) h2 hk.2 hf' g2 hs.2
        have e4 : mergeO (a :: r) (o :: os) = o :: mergeO r os := by simp [mergeO, hl]
        rw [e4]
        unfold IV.RepL
        exact ⟨v, vs', _, _, rfl, rfl, g1, k1⟩
    | false =>
      have e1 : lkFrom i (a :: r) = lkFrom (i + 1) r := by simp [lkFrom, hl]
      have e2 : (a :: r).filter lentI = r.filter lentI := by simp [hl]
      rw [e2] at hs
      rw [e1] at ho
      have g := repD_bs (w' := w') h1 hk.1 hl hle
      have k1 := merge_rep hle r (i + 1) h2 hk.2 hf' ho hs
      have e4 : mergeO (a :: r) os = leftI a :: mergeO r os := by simp [mergeO, hl]
      rw [e4]
      unfold IV.RepL
      exact ⟨v, vs', [], _, rfl, by simp, g, k1⟩

section
variable {X : Cx} {H : Fz} {L : Vl} {σ : St} {a : Act} {w : World}
theorem resV_run {T : Tab} (hT : TabOk X.P T) (r : Rel X H L σ a w) {rv : ResultVar} {x : Val} (h : resV T σ rv = some x) :
    ∃ u, (match rv with
      | .tmp t => pure (a.tmps.getD t undef)
      | .cell p t => do loadVar t (← asAddr (a.tmps.getD p undef)) : Sem Value).run X.P w = .ok u w ∧ x.Rep H L u := by
  cases rv with
  | tmp t =>
    simp only [resV, Option.some.injEq] at h
    subst h
    exact ⟨_, rfl, r.env t⟩
  | cell p ty =>
    unfold resV at h
    dsimp only at h
    split at h
    case h_2 => cases h
    rename_i t hp
    split at h
    case h_2 => cases h
    rename_i td htd
    have hd := hT _ _ htd
    have hv := r.env p
    rw [hp] at hv
    unfold Val.Rep at hv
    obtain ⟨b, hL, e1⟩ := hv
    split at h
    · rename_i ty0 cells hen
      have he := r.ents t
      rw [hen] at he
      obtain ⟨b', cur, g1, g2, g3, g4, _⟩ := he
      rw [hL] at g1
      simp only [Option.some.injEq, Value.pointer.injEq, Addr.mk.injEq, and_true] at g1
      subst g1
      have hth := there_block g2
      split at h
      · rename_i hagg
        split at h
        · rename_i hlen
          simp only [Option.some.injEq] at h
          subst h
          refine ⟨.agg cur.toList.toArray, ?_, mkAgg_rep g3 g4⟩
          dsimp only
          rw [e1]
          have := run_loadVar_agg hd hagg hth (by rw [← hlen]; exact g3.len)
          simpa [asAddr] using this
        · cases h
      · rename_i hagg
        split at h
        · rename_i y
          simp only [Option.some.injEq] at h
          subst h
          obtain ⟨u, h3, h4⟩ := g3.get (i := 0) (x := y) rfl
          refine ⟨u, ?_, h4⟩
          dsimp only
          rw [e1]
          have := run_loadVar_one hd (by simpa using hagg) (hth 0 u h3)
          rw [add_zero] at this
          simpa [asAddr] using this
        · cases h
    · rename_i ty0 cells hen
      have he := r.ents t
      rw [hen] at he
      obtain ⟨b', cur, g1, g2, g3, g4, _⟩ := he
      rw [hL] at g1
      simp only [Option.some.injEq, Value.pointer.injEq, Addr.mk.injEq, and_true] at g1
      subst g1
      have hth := there_block g2
      split at h
      · rename_i hagg
        split at h
        · rename_i hlen
          simp only [Option.some.injEq] at h
          subst h
          refine ⟨.agg cur.toList.toArray, ?_, ?_⟩
          · dsimp only
            rw [e1]
            have := run_loadVar_agg hd hagg hth (by rw [repL_len g3 g4]; exact hlen)
            simpa [asAddr] using this
          · unfold Val.Rep
            exact ⟨_, rfl, by unfold D.Rep; exact ⟨by simpa using g3, g4⟩⟩
        · cases h
      · rename_i hagg
        split at h
        · rename_i y
          simp only [Option.some.injEq] at h
          subst h
          obtain ⟨u, h3, h4⟩ := D.repL_one g3 g4 (i := 0) (x := y) rfl
          refine ⟨u, ?_, ?_⟩
          · dsimp only
            rw [e1]
            have := run_loadVar_one hd (by simpa using hagg) (hth 0 u h3)
            rw [add_zero] at this
            simpa [asAddr] using this
          · unfold Val.Rep
            have := g4 y (by simp)
            cases y <;> first | (simp [D.isAgg] at this; done) | exact h4
        · cases h
    · cases h
theorem resL_run {T : Tab} (hT : TabOk X.P T) (r : Rel X H L σ a w) : ∀ {rs : List ResultVar} {xs : List Val}, resL T σ rs = some xs →
    ∃ us, (rs.mapM fun rv => (match rv with
      | .tmp t => pure (a.tmps.getD t undef)
      | .cell p t => do loadVar t (← asAddr (a.tmps.getD p undef)) : Sem Value)).run X.P w = .ok us w ∧ Val.RepL H L xs us
  | [], xs, h => by
    simp only [resL, Option.some.injEq] at h
    subst h
    exact ⟨[], rfl, by unfold Val.RepL; rfl⟩
  | rv :: rs, xs, h => by
    unfold resL at h
    split at h
    · rename_i x hx
      split at h
      · rename_i xs' hxs
        simp only [Option.some.injEq] at h
        subst h
        obtain ⟨u, h1, h2⟩ := resV_run hT r hx
        obtain ⟨us, h3, h4⟩ := resL_run hT r hxs
        refine ⟨u :: us, ?_, by unfold Val.RepL; exact ⟨u, us, rfl, h2, h4⟩⟩
        simp only [List.mapM_cons, Sem.run_bind, h1, h3, Result.andThen_ok, Sem.run_pure]
      · cases h
    · cases h
end

theorem lkFrom_mem : ∀ (args : List IV) (i j : Nat), j ∈ lkFrom i args ↔ ∃ k x, j = i + k ∧ args[k]? = some x ∧ lentI x = true
  | [], i, j => by simp [lkFrom]
  | a :: r, i, j => by
    have ih := lkFrom_mem r (i + 1) j
    unfold lkFrom
    split
    · rename_i hl
      rw [List.mem_cons, ih]
      constructor
      · rintro (rfl | ⟨k, x, rfl, h1, h2⟩)
        · exact ⟨0, a, rfl, rfl, hl⟩
        · exact ⟨k + 1, x, by omega, by simpa using h1, h2⟩
      · rintro ⟨k, x, rfl, h1, h2⟩
        cases k with
        | zero => exact .inl rfl
        | succ k => exact .inr ⟨k, x, by omega, by simpa using h1, h2⟩
    · rename_i hl
      rw [ih]
      constructor
      · rintro ⟨k, x, rfl, h1, h2⟩
        exact ⟨k + 1, x, by omega, by simpa using h1, h2⟩
      · rintro ⟨k, x, rfl, h1, h2⟩
        cases k with
        | zero => simp at h1; subst h1; exact (hl h2).elim
        | succ k => exact ⟨k, x, by omega, by simpa using h1, h2⟩
mutual
theorem IV.Rep.lt {H : Fz} {w : World} : ∀ {x : IV} {v : Value} {bs : List Nat}, IV.Rep H w x v bs → ∀ b ∈ bs, b < w.heap.size
  | .dead, v, bs, h, b, hb => by unfold IV.Rep at h; subst h; simp at hb
  | .d _, v, bs, h, b, hb => by unfold IV.Rep at h; rw [h.2] at hb; simp at hb
  | .dptr _, v, bs, h, b, hb => by unfold IV.Rep at h; rw [h.2] at hb; simp at hb
  | .own nl e sz xs, v, bs, h, b, hb => by
    unfold IV.Rep at h
    obtain ⟨cells, h1, h2, h3, h4, rfl⟩ := h
    have hb' : v.ownBlock = some b := by
      cases hv : v.ownBlock with
      | none => rw [hv] at hb; simp at hb
      | some c => rw [hv] at hb; simp at hb; rw [hb]
    exact ownsRow_lt h1 hb'
  | .lrow nl e sz xs, v, bs, h, b, hb => by
    unfold IV.Rep at h
    obtain ⟨cells, h1, h2, h3, h4, rfl⟩ := h
    have hb' : v.ownBlock = some b := by
      cases hv : v.ownBlock with
      | none => rw [hv] at hb; simp at hb
      | some c => rw [hv] at hb; simp at hb; rw [hb]
    exact ownsRow_lt h1 hb'
  | .ptr ty off cells, v, bs, h, b, hb => by
    unfold IV.Rep at h
    obtain ⟨b0, cur, bs', h1, h2, h3, h4, rfl⟩ := h
    rcases List.mem_cons.1 hb with rfl | hb
    · exact (Array.getElem?_eq_some_iff.1 h2).1
    · exact IV.RepL.lt h3 b hb
  | .dbox ty off cells, v, bs, h, b, hb => by
    unfold IV.Rep at h
    obtain ⟨b0, cur, h1, h2, h3, h4, rfl⟩ := h
    simp at hb
    subst hb
    exact (Array.getElem?_eq_some_iff.1 h2).1
  | .fn f caps, v, bs, h, b, hb => by
    unfold IV.Rep at h
    obtain ⟨arr, h1, h2⟩ := h
    exact IV.RepL.lt h2 b hb
  | .agg cs, v, bs, h, b, hb => by
    unfold IV.Rep at h
    obtain ⟨arr, h1, h2, h3⟩ := h
    exact IV.RepL.lt h2 b hb
  | .tup cs, v, bs, h, b, hb => by
    unfold IV.Rep at h
    obtain ⟨arr, h1, h2⟩ := h
    exact IV.RepL.lt h2 b hb
theorem IV.RepL.lt {H : Fz} {w : World} : ∀ {xs : List IV} {vs : List Value} {bs : List Nat}, IV.RepL H w xs vs bs → ∀ b ∈ bs, b < w.heap.size
  | [], vs, bs, h, b, hb => by unfold IV.RepL at h; rw [h.2] at hb; simp at hb
  | x :: xs, vs, bs, h, b, hb => by
    unfold IV.RepL at h
    obtain ⟨v, r, b1, b2, rfl, rfl, h1, h2⟩ := h
    rcases List.mem_append.1 hb with hb | hb
    · exact IV.Rep.lt h1 b hb
    · exact IV.RepL.lt h2 b hb
end
/-- What a program's functions are. -/
structure FxOk (P : Program) (F : Fx) : Prop where
  orders : P.follows .mixedOrders = true
  tab : TabOk P F.T
  code : ∀ f fn, F.code f = some fn → ∃ g, P.funcs[f]? = some g ∧ g.body = some fn.body ∧ g.ntmps = fn.ntmps ∧ g.results.toList = fn.results ∧ (g.name == "runtime.NumGoroutine") = false
  prim : ∀ f p args r outs, F.prim f = some p → p args = some (r, outs) → FnOk P f ∧ CallSpec P F.G f args r outs
  ins : ∀ f fn, F.code f = some fn → ∀ g e, insOf fn.cv g = some e → InsOk P g e ∧ FnOk P g
theorem IV.RepL.len {H : Fz} {w : World} : ∀ {xs : List IV} {vs : List Value} {bs : List Nat}, IV.RepL H w xs vs bs → xs.length = vs.length
  | [], vs, bs, h => by unfold IV.RepL at h; rw [h.1]; rfl
  | x :: xs, vs, bs, h => by
    unfold IV.RepL at h
    obtain ⟨v, r, b1, b2, rfl, _, _, h2⟩ := h
    simp [h2.len]
theorem oneI_rep {H : Fz} {w : World} {xs : List IV} {vs : List Value} {bs : List Nat} (h : IV.RepL H w xs vs bs) : IV.Rep H w (oneI xs) (if h : vs.toArray.size = 1 then vs.toArray[0] else .tuple vs.toArray) bs := by
  have hl := h.len
  unfold oneI
  split
  · rename_i x
    unfold IV.RepL at h
    obtain ⟨v, r, b1, b2, rfl, rfl, h1, h2⟩ := h
    unfold IV.RepL at h2
    obtain ⟨rfl, rfl⟩ := h2
    simpa using h1
  · rename_i hn
    have : ¬ vs.toArray.size = 1 := by
      intro he
      cases xs with
      | nil => simp at hl he; omega
      | cons x xs =>
        cases xs with
        | nil => exact hn x rfl
        | cons y ys => simp at hl he; omega
    rw [dif_neg this]
    unfold IV.Rep
    exact ⟨_, rfl, by simpa using h⟩
theorem toksL_append (σ : St) : ∀ xs ys : List Val, toksL σ (xs ++ ys) = toksL σ xs ++ toksL σ ys
  | [], ys => rfl
  | x :: xs, ys => by simp [toksL, toksL_append σ xs ys]
theorem finF_ok {P : Program} {F : Fx} (hF : FxOk P F) {C : Caller} {fn : FnD} {g : Func} (hg : g.results.toList = fn.results) {args : List IV} {s : Sl} {res : IV} {outs : List IV} (h : finF F C fn args s = some (res, outs)) (hk : args.all okArg = true)
    {X : Cx} (hP : X.P = P) {vs : List Value} {H : Fz} {a : Act} {w : World} (hargs : IV.RepL X.H0 X.w0 args vs X.own0) (hown : ∀ b ∈ X.own0, X.H0 b = none ∧ b < X.w0.heap.size) (hlk : ∀ j x v, args[j]? = some x → lentI x = true → vs[j]? = some v → (j, v) ∈ X.lk) (r : SRel X H s a w) :
    a.defers = [] ∧ ∃ v, (results g a.tmps).run P w = .ok v w ∧ ∃ H' b2 b3, X.H0.le H' ∧ H'.sub w ∧ Framed X.w0 X.own0 w ∧ (∀ k, k < X.w0.heap.size → k ∉ X.own0 → H' k = X.H0 k) ∧
      IV.RepL H' w outs vs b3 ∧ IV.Rep H' w res v b2 ∧ (b3 ++ b2).Nodup ∧ (∀ b ∈ b3, H' b = none ∧ (X.w0.heap.size ≤ b ∨ b ∈ X.own0)) ∧ ∀ b ∈ b2, H' b = none ∧ (X.w0.heap.size ≤ b ∨ b ∈ X.own0) := by
  subst hP
  obtain ⟨L, r1, _⟩ := unpackS_rel r
  refine ⟨r.defers, ?_⟩
  unfold finF at h
  dsimp only at h
  split at h
  case h_2 => cases h
  rename_i σ1 h1
  split at h
  case h_2 => cases h
  rename_i rv hrv
  -- the variables that were lent
  obtain ⟨_, _, _, H1, σ1', k1, k2, k3, _⟩ := argL_run (C := C) _ r1 (repL_slots r1 (lkData 0 args)) h1
  simp only [Prog.run, Option.some.injEq] at k1
  subst k1
  obtain ⟨us, k4, k5⟩ := resL_run hF.tab k3 hrv
  obtain ⟨H2, k6, k7⟩ := freezeT_rel (if fn.cut then cutT rv else []) k3
  generalize freezeT σ1' (if fn.cut then cutT rv else []) = σ2 at *
  obtain ⟨H3, k8, k9⟩ := freezeT_rel (dups (toksL σ2 rv)) k7
  generalize freezeT σ2 (dups (toksL σ2 rv)) = σ3 at *
  by_cases hok : (toksL σ3 ((lkFrom 0 args).map σ3.getS ++ rv)).Nodup ∧ shpL (args.filter lentI) (packL σ3 ((lkFrom 0 args).map σ3.getS)) = true
  case neg => rw [if_neg hok] at h; cases h
  rw [if_pos hok] at h
  simp only [Option.some.injEq, Prod.mk.injEq] at h
  obtain ⟨rfl, rfl⟩ := h
  obtain ⟨hnd, hsh⟩ := hok
  have hres : Val.RepL H3 L rv us := Val.RepL.le (Fz.le_trans k6 k8) (Vl.le_refl L) _ _ k5
  have hb := blks_ok k9 hnd
  rw [toksL_append, blks_append] at hb
  have p1 := packL_rep k9 _ (repL_slots k9 (lkFrom 0 args))
  have p2 := packL_rep k9 _ hres
  have m1 := merge_rep (H := X.H0) (w := X.w0) k9.le (f := fun i => a.tmps.getD i undef) args 0 hargs hk (fun j x v hx hl hv => by
    rw [Nat.zero_add]; exact k9.lk j v (hlk j x v hx hl hv)) p1 hsh
  refine ⟨if h : us.toArray.size = 1 then us.toArray[0] else .tuple us.toArray, ?_, H3, blks σ3 L (toksL σ3 rv), _, k9.le, k9.sub, k9.fr, fun k hk' hno => ?_, m1, oneI_rep p2, hb.1, fun b hb' => hb.2 b (List.mem_append_left _ hb'), fun b hb' => hb.2 b (List.mem_append_right _ hb')⟩
  · have e1 : (g.results.mapM fun rv => (match rv with
      | .tmp t => pure (a.tmps.getD t undef)
      | .cell p t => do loadVar t (← asAddr (a.tmps.getD p undef)) : Sem Value)).run X.P w = .ok us.toArray w := by
      rw [Array.mapM_eq_mapM_toList, hg]
      rw [map_eq_pure_bind, Sem.run_bind, k4]
      rfl
    unfold results
    rw [Sem.run_bind]
    exact congrArg (fun r => r.andThen fun (b : Array Value) w' => Sem.run X.P (pure (if h : b.size = 1 then b[0] else Value.tuple b)) w') e1
  · exact k9.fz k (fun hM => by rcases hM with hM | hM; exact absurd hk' (by omega); exact hno hM)
theorem evFn_ok {P : Program} {F : Fx} (hF : FxOk P F) {C : Caller} (hC : CSound P F.G C) {n : Nat} {fn : FnD} {f : FuncId} (hf : F.code f = some fn) {args : List IV} {res : IV} {outs : List IV} (h : evFn F C n fn args = some (res, outs)) : FnOk P f ∧ CallSpec P F.G f args res outs := by
  obtain ⟨g, g1, g2, g3, g4, g5⟩ := hF.code f fn hf
  refine ⟨⟨g, g1, g5, by rw [g2]; rfl⟩, ?_⟩
  intro H w vs bs hglob hsub hargs hnd hfree
  unfold evFn at h
  split at h
  case isFalse => cases h
  rename_i hk
  have hlen := hargs.len
  have hbl : ∀ b ∈ bs, b < w.heap.size := fun b hb => by
    exact IV.RepL.lt hargs b hb
  let X : Cx := ⟨P, F.T, w, bs, H, fn.ntmps, (lkFrom 0 args).map fun i => (i, vs.getD i undef)⟩
  have kk : Cxk X ⟨F.T, F.G, fn.ntmps, lkFrom 0 args, fn.cv⟩ := ⟨hF.tab, hglob, rfl, fun d hd u hu => by
    obtain ⟨i, hi, e⟩ := List.mem_map.1 hu
    cases e
    exact hd hi, fun g' e' h' => hF.ins f fn hf g' e' h'⟩
  have htmp : ∀ i, i < vs.length → ((vs.toArray ++ Array.replicate (fn.ntmps - vs.toArray.size) undef).getD i undef) = vs.getD i undef := fun i hi => by
    rw [Array.getD_eq_getD_getElem?, Array.getElem?_append_left (by simpa using hi)]
    simp [List.getD_eq_getElem?_getD]
  have r0 : SRel X H ((List.range args.length).zip args) { tmps := vs.toArray ++ Array.replicate (fn.ntmps - vs.toArray.size) undef, defers := [] } w := by
    refine ⟨Fz.le_refl H, hsub, Framed.refl w bs, rfl, ?_, fun i v hi => ?_, ⟨bs, ?_, hnd, fun b hb => ⟨hfree b hb, .inr hb⟩⟩, fun _ _ => rfl, fun k x hx hk2 => ?_⟩
    · have := hk.1
      show (vs.toArray ++ Array.replicate (fn.ntmps - vs.toArray.size) undef).size = fn.ntmps
      simp; omega
    · obtain ⟨j, hj, e⟩ := List.mem_map.1 hi
      cases e
      obtain ⟨k, x, rfl, h1, _⟩ := (lkFrom_mem args 0 _).1 hj
      have := (List.getElem?_eq_some_iff.1 h1).1
      exact htmp _ (by omega)
    · have e1 : ((List.range args.length).zip args).map (·.2) = args := List.map_snd_zip (by simp)
      have e2 : ((List.range args.length).zip args).map (fun p => (vs.toArray ++ Array.replicate (fn.ntmps - vs.toArray.size) undef).getD p.1 undef) = vs := by
        have : (fun (p : Nat × IV) => (vs.toArray ++ Array.replicate (fn.ntmps - vs.toArray.size) undef).getD p.1 undef) = (fun i => (vs.toArray ++ Array.replicate (fn.ntmps - vs.toArray.size) undef).getD i undef) ∘ Prod.fst := rfl
        rw [this, ← List.map_map, List.map_fst_zip (by simp)]
        refine List.ext_getElem (by simp [hlen]) (fun i h1 h2 => ?_)
        simp only [List.getElem_map, List.getElem_range]
        rw [htmp i h2, List.getD_eq_getElem?_getD, List.getElem?_eq_getElem h2]; rfl
      rw [e1, e2]
      exact hargs
    · have h1 := List.mem_range.1 (List.of_mem_zip hx).1
      have h2 := hk.1
      have h3 : 2000000 + fn.ntmps ≤ k := hk2
      omega
  have hmem : ∀ (j : Nat) (x : IV) (v : Value), args[j]? = some x → lentI x = true → vs[j]? = some v → (j, v) ∈ X.lk := by
    intro j x v hx hl hv
    refine List.mem_map.2 ⟨j, (lkFrom_mem args 0 j).2 ⟨j, x, by omega, hx, hl⟩, ?_⟩
    rw [List.getD_eq_getElem?_getD, hv]; rfl
  have hfin : ∀ s, finF F C fn args s = some (res, outs) → ∀ H' a w', SRel X H' s a w' → a.defers = [] ∧ ∃ v, (results g a.tmps).run P w' = .ok v w' ∧ ∃ H' b2 b3, X.H0.le H' ∧ H'.sub w' ∧ Framed X.w0 X.own0 w' ∧ (∀ k, k < X.w0.heap.size → k ∉ X.own0 → H' k = X.H0 k) ∧
      IV.RepL H' w' outs vs b3 ∧ IV.Rep H' w' res v b2 ∧ (b3 ++ b2).Nodup ∧ (∀ b ∈ b3, H' b = none ∧ (X.w0.heap.size ≤ b ∨ b ∈ X.own0)) ∧ ∀ b ∈ b2, H' b = none ∧ (X.w0.heap.size ≤ b ∨ b ∈ X.own0) := fun s hs H' a w' r' =>
    finF_ok hF g4 hs hk.2 (X := X) rfl hargs (fun b hb => ⟨hfree b hb, hbl b hb⟩) (fun j x v hx hl hv => hmem j x v hx hl hv) r'
  refine calls_of_wp g1 g2 ?_
  rw [g3]
  have hJ := evJ_ok (X := X) kk hF.orders hC (K := fn.keep) n
  split at h
  · rename_i s hs
    refine evS_ok kk hF.orders hC hJ fn.body _ _ hs H _ w r0 _ (fun H' a' w' r' => ?_)
    obtain ⟨q1, v, q2, H2, b2, b3, q3⟩ := hfin s h H' a' w' r'
    exact ⟨q1, v, q2, v, H2, b2, b3, rfl, q3⟩
  · rename_i s hs
    refine evS_ok kk hF.orders hC hJ fn.body _ _ hs H _ w r0 _ (fun H' a' w' r' => ?_)
    obtain ⟨q1, v, q2, H2, b2, b3, q3⟩ := hfin s h H' a' w' r'
    exact ⟨q1, v, q2, v, H2, b2, b3, rfl, q3⟩
  · cases h
theorem evF_sound {P : Program} {F : Fx} (hF : FxOk P F) : ∀ n, CSound P F.G (evF F n)
  | 0 => fun f args r outs h => by simp [evF] at h
  | n + 1 => fun f args r outs h => by
    unfold evF at h
    split at h
    · rename_i p hp
      exact hF.prim f p args r outs hp h
    · split at h
      · rename_i fn hf
        exact evFn_ok hF (evF_sound hF n) hf h
      · cases h
end Go.Ab

/- The types' table of a program, and its functions, by lists. No condition. -/
set_option linter.unusedVariables false
set_option linter.unusedSimpArgs false
namespace Go.Ab
open Go

def toD1 : Value → Option D
  | .int k n => some (.int k n)
  | .bool b => some (.bool b)
  | .float k b => some (.flt k b)
  | .complex k a b => some (.cpx k a b)
  | .string s => some (.str s)
  | .slice none 0 0 => some (.sl 1 true [] [])
  | .pointer none => some .nilp
  | .nilFunc => some .nilf
  | .nilIface => some (.ifc true)
  | _ => none
def toDs : List Value → Option (List D)
  | [] => some []
  | v :: vs => match toD1 v, toDs vs with
    | some x, some xs => some (x :: xs)
    | _, _ => none
def toD : Value → Option D
  | .agg cs => (toDs cs.toList).map .agg
  | v => toD1 v
/-- How wide the elements of the cells of a type are, where these are slices. -/
def szL (P : Program) : Nat → TypeId → List Nat
  | 0, _ => []
  | n + 1, t => match P.underlying t with
    | some (.slice e) => [P.cellsOf e]
    | some (.struct fs) => fs.toList.flatMap fun f => szL P n f.type
    | _ => List.replicate (P.cellsOf t) 1
def fixD : D → Nat → D
  | .sl _ true [] [], n => .sl n true [] []
  | x, _ => x
def fixL : List D → List Nat → List D
  | x :: xs, n :: ns => fixD x n :: fixL xs ns
  | xs, _ => xs
/-- Nil slices with the width of their elements. -/
def fixZ : D → List Nat → D
  | .agg cs, l => .agg (fixL cs l)
  | x, [n] => fixD x n
  | x, _ => x
theorem fixD_val (x : D) (n : Nat) : (fixD x n).val = x.val ∧ (fixD x n).plain1 = x.plain1 := by
  unfold fixD
  split
  · exact ⟨rfl, rfl⟩
  · exact ⟨rfl, rfl⟩
theorem fixL_val : ∀ (xs : List D) (ns : List Nat), D.vals (fixL xs ns) = D.vals xs ∧ (fixL xs ns).all D.plain1 = xs.all D.plain1
  | [], ns => by cases ns <;> exact ⟨rfl, rfl⟩
  | x :: xs, [] => ⟨rfl, rfl⟩
  | x :: xs, n :: ns => by
    have h1 := fixD_val x n
    have h2 := fixL_val xs ns
    refine ⟨?_, by simp only [fixL, List.all_cons, h1.2, h2.2]⟩
    simp only [fixL]
    unfold D.vals
    rw [h1.1, h2.1]
theorem fixD_plain (x : D) (n : Nat) : (fixD x n).plain = x.plain := by
  unfold fixD
  split <;> rfl
theorem fixZ_val (x : D) (l : List Nat) : (fixZ x l).val = x.val ∧ (fixZ x l).plain = x.plain := by
  unfold fixZ
  split
  · rename_i cs
    have h := fixL_val cs l
    refine ⟨?_, h.2⟩
    unfold D.val
    rw [h.1]
  · exact ⟨(fixD_val _ _).1, fixD_plain _ _⟩
  · exact ⟨rfl, rfl⟩
def eqsOf (P : Program) (t : TypeId) (d : TypeDesc) : Bool :=
  match d with
  | .struct fs => !P.stoodInHeld t && (!P.eqGuardType P.depth t && fs.toList.all (fun f => f.name != "_"))
  | _ => false
def tdOf (P : Program) (t : TypeId) : Option TD :=
  match P.underlying t, P.info? t with
  | some d, some i => match i.zero with
    | some z => match toD z with
      | some x => if x.val.cells.size = i.size ∧ 0 < i.size then some ⟨d, i.size, i.bytes, fixZ x (szL P 8 t), eqsOf P t d⟩ else none
      | none => none
    | none => none
  | _, _ => none
def tabOf (P : Program) : List TypeId → Tab
  | [] => []
  | t :: r => match tdOf P t with
    | some td => (t, td) :: tabOf P r
    | none => tabOf P r
theorem toD1_val {v : Value} {x : D} (h : toD1 v = some x) : x.val = v ∧ x.plain1 = true := by
  unfold toD1 at h
  split at h <;> first | (cases h; done) | (simp only [Option.some.injEq] at h; subst h; exact ⟨rfl, rfl⟩)
theorem toDs_val : ∀ {vs : List Value} {xs : List D}, toDs vs = some xs → D.vals xs = vs ∧ xs.all D.plain1 = true
  | [], xs, h => by simp only [toDs, Option.some.injEq] at h; subst h; exact ⟨rfl, rfl⟩
  | v :: vs, xs, h => by
    unfold toDs at h
    split at h
    · rename_i x ys h1 h2
      simp only [Option.some.injEq] at h
      subst h
      have h3 := toD1_val h1
      have h4 := toDs_val h2
      exact ⟨by unfold D.vals; rw [h3.1, h4.1], by simp [h3.2]; simpa using h4.2⟩
    · cases h
theorem toD_val {v : Value} {x : D} (h : toD v = some x) : x.val = v ∧ x.plain = true := by
  unfold toD at h
  split at h
  · rename_i cs
    cases hc : toDs cs.toList with
    | none => rw [hc] at h; cases h
    | some xs =>
      rw [hc] at h
      simp only [Option.map_some, Option.some.injEq] at h
      subst h
      have h4 := toDs_val hc
      exact ⟨by unfold D.val; rw [h4.1], h4.2⟩
  · have h3 := toD1_val h
    refine ⟨h3.1, ?_⟩
    cases x <;> first | exact h3.2 | (simp [D.plain1] at h3)
theorem tdOf_ok {P : Program} {t : TypeId} {td : TD} (h : tdOf P t = some td) : TdOk P t td := by
  unfold tdOf at h
  split at h
  · rename_i d i h1 h2
    split at h
    · rename_i z h3
      split at h
      · rename_i x h4
        split at h
        · rename_i h5
          simp only [Option.some.injEq] at h
          subst h
          have h6 := toD_val h4
          have h7 := fixZ_val x (szL P 8 t)
          exact ⟨h1, ⟨i, h2, rfl, rfl, by dsimp only; rw [h3, h7.1, h6.1]⟩, h7.2.trans h6.2, by dsimp only; rw [h7.1]; exact h5.1, h5.2, fun he => by
            dsimp only at he ⊢
            unfold eqsOf at he
            split at he
            · rename_i fs
              simp only [Bool.and_eq_true, Bool.not_eq_true'] at he
              exact ⟨he.1, he.2.1, fun fs' hf => by cases hf; exact he.2.2⟩
            · cases he⟩
        · cases h
      · cases h
    · cases h
  · cases h
theorem tabOf_ok {P : Program} : ∀ {l : List TypeId}, TabOk P (tabOf P l)
  | [], t, td, h => by simp [tabOf, Tab.get] at h
  | u :: r, t, td, h => by
    unfold tabOf at h
    split at h
    · rename_i td' h1
      unfold Tab.get at h
      split at h
      · rename_i e
        subst e
        simp only [Option.some.injEq] at h
        subst h
        exact tdOf_ok h1
      · exact tabOf_ok t td h
    · exact tabOf_ok t td h
theorem TabOk.of {P : Program} {T : Tab} {l : List TypeId} (h : tabOf P l = T) : TabOk P T := h ▸ tabOf_ok

/-- Functions, by number. -/
def codeOf : List (FuncId × FnD) → FuncId → Option FnD
  | [], _ => none
  | (g, d) :: r, f => if g = f then some d else codeOf r f
def CodeOk (P : Program) (l : List (FuncId × FnD)) : Prop := ∀ p ∈ l, ∃ g, P.funcs[p.1]? = some g ∧ g.body = some p.2.body ∧ g.ntmps = p.2.ntmps ∧ g.results.toList = p.2.results ∧ (g.name == "runtime.NumGoroutine") = false
theorem CodeOk.nil (P : Program) : CodeOk P [] := by simp [CodeOk]
theorem CodeOk.cons {P : Program} {f : FuncId} {d : FnD} {l : List (FuncId × FnD)} {g : Func} (h : P.funcs[f]? = some g) (h2 : g.body = some d.body ∧ g.ntmps = d.ntmps ∧ g.results.toList = d.results ∧ (g.name == "runtime.NumGoroutine") = false) (h3 : CodeOk P l) : CodeOk P ((f, d) :: l) := fun p hp => by
  rcases List.mem_cons.1 hp with rfl | hp
  · exact ⟨g, h, h2⟩
  · exact h3 p hp
theorem CodeOk.get {P : Program} : ∀ {l : List (FuncId × FnD)}, CodeOk P l → ∀ f fn, codeOf l f = some fn → ∃ g, P.funcs[f]? = some g ∧ g.body = some fn.body ∧ g.ntmps = fn.ntmps ∧ g.results.toList = fn.results ∧ (g.name == "runtime.NumGoroutine") = false
  | [], _, f, fn, h => by simp [codeOf] at h
  | (g, d) :: r, hl, f, fn, h => by
    unfold codeOf at h
    split at h
    · rename_i e
      subst e
      simp only [Option.some.injEq] at h
      subst h
      exact hl (g, d) (by simp)
    · exact CodeOk.get (fun p hp => hl p (by simp [hp])) f fn h
end Go.Ab
