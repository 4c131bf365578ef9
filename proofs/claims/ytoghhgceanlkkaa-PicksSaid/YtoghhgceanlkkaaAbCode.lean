/- Code: regions, ways, loops, labels. No condition. -/
import Derived.Test.YtoghhgceanlkkaaAbDraw
import Derived.ScopeJumps
set_option linter.unusedVariables false
set_option linter.unusedSimpArgs false
namespace Go.Ab
open Go

/-- The slots that are kept behind each region of a function (and, at number 1000000, those that a way leaves). -/
abbrev Keep := Nat → List Nat
def runDraw (E : Ev) (C : Caller) (ops : Array Oper) : List Oper → St → Option (St × List (List Loc × List Loc))
  | [], σ => some (σ, [])
  | o :: r, σ => match (guardP E ops o).run C σ with
    | some σ1 => match runDraw E C ops r σ1 with
      | some (σ2, ls) => some (σ2, (guardP E ops o).logs C σ :: ls)
      | none => none
    | none => none
def regionEv (E : Ev) (C : Caller) (K : Keep) (id : Nat) (ops : Array Oper) (draw : Bool) (s : Sl) : Option Sl :=
  match draw with
  | true => match runDraw E C ops ops.toList (unpackS s) with
    | some (σ, ls) => if edgesOk ops.toList 0 && pairsOk (predsL ops.toList []) ls then gather σ (K id) else none
    | none => none
  | false => match runOps E C ops ops.toList (unpackS s) with
    | some σ => gather σ (K id)
    | none => none
inductive Out where
  | norm (s : Sl)
  | exit (id : Nat) (s : Sl)
  | goto (l : Nat) (s : Sl)
  | ret (s : Sl)
def lookS (s : Sl) (t : Nat) : IV := assoc .dead s t
def leaveS (K : Keep) (s : Sl) (t : Nat) : Sl := if (K 1000000).contains t then s else s.filter fun p => p.1 != t

def evS (E : Ev) (C : Caller) (K : Keep) (Jl : Code → Sl → Option Out) (Jg : Code → Code → Sl → Option Out) : Code → Sl → Option Out
  | .skip, s => some (.norm s)
  | .region id ops draw, s => match regionEv E C K id ops draw s with
    | some s' => some (.norm s')
    | none => none
  | .seq a b, s => match evS E C K Jl Jg a s with
    | some (.norm s') => evS E C K Jl Jg b s'
    | r => r
  | .cond (.tmp t) x y, s => match lookS s t with
    | .d (.bool b) => if b = true then evS E C K Jl Jg x (leaveS K s t) else evS E C K Jl Jg y (leaveS K s t)
    | _ => none
  | .block id c, s => match evS E C K Jl Jg c s with
    | some (.exit i s') => if i = id then some (.norm s') else some (.exit i s')
    | r => r
  | .loop c, s => match evS E C K Jl Jg c s with
    | some (.norm s') => Jl c s'
    | r => r
  | .exit id, s => some (.exit id s)
  | .scope c, s => match evS E C K Jl Jg c s with
    | some (.goto l s') => match findLabel c l with
      | some rest => Jg c rest s'
      | none => some (.goto l s')
    | r => r
  | .label _, s => some (.norm s)
  | .goto l, s => some (.goto l s)
  | .ret, s => some (.ret s)
  | _, _ => none
def evJ (E : Ev) (C : Caller) (K : Keep) : Nat → (Code → Sl → Option Out) × (Code → Code → Sl → Option Out)
  | 0 => (fun _ _ => none, fun _ _ _ => none)
  | n + 1 => (fun c s => match evS E C K (evJ E C K n).1 (evJ E C K n).2 c s with
    | some (.norm s') => (evJ E C K n).1 c s'
    | r => r, fun c rest s => match evS E C K (evJ E C K n).1 (evJ E C K n).2 rest s with
    | some (.goto l s') => match findLabel c l with
      | some rest' => (evJ E C K n).2 c rest' s'
      | none => some (.goto l s')
    | r => r)

section
variable {X : Cx} {E : Ev} {C : Caller}

/-- What the evaluator told has come about. -/
def OutQ (X : Cx) (out : Out) (Q : Exit → Act → World → Prop) : Prop :=
  match out with
  | .norm s => ∀ H' a w, SRel X H' s a w → Q .normal a w
  | .exit id s => ∀ H' a w, SRel X H' s a w → Q (.exit id) a w
  | .goto l s => ∀ H' a w, SRel X H' s a w → Q (.goto l) a w
  | .ret s => ∀ H' a w, SRel X H' s a w → Q .ret a w

theorem Rel.drew {H : Fz} {L : Vl} {σ : St} {a : Act} {w : World} (r : Rel X H L σ a w) (n : Nat) : Rel X H L σ a { w with drawn := n } :=
  r.move (fun _ => rfl) (Vl.le_refl L) (Fz.le_refl H) (fun k o hk => r.sub k o hk) ⟨r.fr.os, r.fr.tape, r.fr.output, r.fr.size, r.fr.block⟩ (fun k o hk => r.sub k o hk) (fun _ => False) (fun t _ => ⟨rfl, rfl⟩) (fun t b _ hb => ⟨rfl, ((r.ents t).lt hb).2.1⟩) (fun t h => h.elim) (fun t t' b h => h.elim)
theorem runDraw_to {ops : Array Oper} : ∀ (l : List Oper) (i : Nat) {σ σ' : St} {ls : List (List Loc × List Loc)} {ℓ : Nat → List Loc × List Loc}, (∀ j o, l[j]? = some o → ops[i + j]? = some o) → runDraw E C ops l σ = some (σ', ls) → (∀ j, j < l.length → ℓ (i + j) = ls.getD j ([], [])) → RunsTo C (fun i => match ops[i]? with | some o => guardP E ops o | none => .ret) ℓ (List.range' i l.length) σ σ' ∧ ls.length = l.length
  | [], i, σ, σ', ls, ℓ, _, h, _ => by
    simp only [runDraw, Option.some.injEq, Prod.mk.injEq] at h
    obtain ⟨rfl, rfl⟩ := h
    exact ⟨St.eqv.refl _, rfl⟩
  | o :: r, i, σ, σ', ls, ℓ, hl, h, hls => by
    unfold runDraw at h
    split at h
    · rename_i σ1 h1
      split at h
      · rename_i σ2 ls2 h2
        simp only [Option.some.injEq, Prod.mk.injEq] at h
        obtain ⟨rfl, rfl⟩ := h
        have ho := hl 0 o rfl
        rw [Nat.add_zero] at ho
        obtain ⟨k1, k2⟩ := runDraw_to r (i + 1) (ℓ := ℓ) (fun j o' hj => by have := hl (j + 1) o' (by simpa using hj); rw [Nat.add_assoc, Nat.add_comm 1 j]; exact this) h2 (fun j hj => by
          have := hls (j + 1) (by simp; omega)
          rw [Nat.add_assoc, Nat.add_comm 1 j, this]; simp)
        refine ⟨?_, by simp [k2]⟩
        rw [List.length_cons, List.range'_succ]
        refine ⟨σ1, by simp only [ho]; exact h1, ?_, k1⟩
        have := hls 0 (by simp)
        simp only [ho]
        rw [Nat.add_zero] at this
        rw [this]; rfl
      · cases h
    · cases h
theorem regionEv_ok (k : Cxk X E) (hm : X.P.follows .mixedOrders = true) (hC : CSound X.P E.G C) {K : Keep} {id : Nat} {ops : Array Oper} {draw : Bool} {H : Fz} {s s' : Sl} {a : Act} {w : World} (r : SRel X H s a w) (h : regionEv E C K id ops draw s = some s') {Q : Exit → Act → World → Prop} (hQ : ∀ H' a' w', SRel X H' s' a' w' → Q .normal a' w') : (Code.region id ops draw).wp X.P Q a w := by
  obtain ⟨L, r1, _⟩ := unpackS_rel r
  unfold regionEv at h
  split at h
  · -- drawn
    split at h
    · rename_i σ ls h1
      split at h
      case isFalse => cases h
      rename_i hok
      simp only [Bool.and_eq_true] at hok
      have hfin : ∀ H' L' a' w', Rel X H' L' σ a' w' → Q .normal a' w' := fun H' L' a' w' r' => by
        obtain ⟨H2, _, r2⟩ := gather_rel r' h
        exact hQ _ _ _ r2
      obtain ⟨k1, k2⟩ := runDraw_to (E := E) (C := C) (ops := ops) ops.toList 0 (ℓ := fun i => ls.getD i ([], [])) (fun j o hj => by rw [Nat.zero_add]; simpa using hj) h1 (fun j _ => by rw [Nat.zero_add])
      refine wp_region_any hm ?_
      refine draw_ok k hC hfin (ℓ := fun i => ls.getD i ([], [])) hok.1 (fun i j hj hi => ?_) ops.size _ (by simp) ?_ (fun k' o hk' => by
        rw [Array.getD_eq_getD_getElem?] at hk'
        by_cases h5 : k' < ops.size
        · simp [h5] at hk'
        · simp [Array.getElem?_eq_none (show (Array.replicate ops.size false).size ≤ k' by simp; omega)] at hk') (r1.drew _) ?_
      · have hp := hok.2
        unfold pairsOk at hp
        have hlen : ls.length = ops.size := by rw [k2]; simp
        have h5 := List.all_eq_true.1 hp i (List.mem_range.2 (by omega))
        have h6 := List.all_eq_true.1 h5 j (List.mem_range.2 hj)
        simp only [Bool.or_eq_true, List.contains_eq_mem, decide_eq_true_eq] at h6
        rcases h6 with h6 | h6
        · exact .inl (predsL_ahead ops ops.toList [] (fun i o ho => by simpa using ho) (by simp) i j h6)
        · exact .inr h6
      · have : rest ops.size (Array.replicate ops.size false) = List.range ops.size := by
          unfold rest
          rw [List.filter_eq_self]
          intro j hj
          have := List.mem_range.1 hj
          simp [this]
        rw [this]; simp
      · have : rest ops.size (Array.replicate ops.size false) = List.range' 0 ops.toList.length := by
          unfold rest
          rw [List.filter_eq_self.2]
          · rw [List.range_eq_range']; simp
          · intro j hj
            have := List.mem_range.1 hj
            simp [this]
        rw [this]
        exact k1
    · cases h
  · split at h
    · rename_i σ h1
      have hfin : ∀ H' L' a' w', Rel X H' L' σ a' w' → Q .normal a' w' := fun H' L' a' w' r' => by
        obtain ⟨H2, _, r2⟩ := gather_rel r' h
        exact hQ _ _ _ r2
      refine wp_region ?_
      rw [List.range_eq_range']
      exact runOps_ok k hC hfin ops.size 0 (by omega) r1 (by simpa using h1)
    · cases h

/-! ### Code -/
theorem erase_rep {H : Fz} {w : World} {f : Nat → Value} (q : Nat → Bool) : ∀ {s : Sl} {bs : List Nat}, IV.RepL H w (s.map (·.2)) (s.map fun p => f p.1) bs → ∃ bs', IV.RepL H w ((s.filter fun p => q p.1).map (·.2)) ((s.filter fun p => q p.1).map fun p => f p.1) bs' ∧ bs'.Sublist bs
  | [], bs, h => ⟨bs, h, List.Sublist.refl _⟩
  | (i, x) :: s, bs, h => by
    simp only [List.map_cons] at h
    unfold IV.RepL at h
    obtain ⟨v, r, b1, b2, he, rfl, h1, h2⟩ := h
    simp only [List.cons.injEq] at he
    obtain ⟨rfl, rfl⟩ := he
    obtain ⟨bs', h3, h4⟩ := erase_rep q h2
    by_cases hq : q i = true
    · rw [List.filter_cons, if_pos hq]
      refine ⟨b1 ++ bs', ?_, List.Sublist.append (List.Sublist.refl _) h4⟩
      simp only [List.map_cons]
      unfold IV.RepL
      exact ⟨_, _, b1, bs', rfl, rfl, h1, h3⟩
    · rw [List.filter_cons, if_neg hq]
      exact ⟨bs', h3, h4.trans (List.sublist_append_right _ _)⟩
theorem leaveS_rel {H : Fz} {s : Sl} {a : Act} {w : World} (r : SRel X H s a w) (K : Keep) (t : Nat) : SRel X H (leaveS K s t) a w := by
  unfold leaveS
  split
  · exact r
  · obtain ⟨bs, h1, h2, h3⟩ := r.rep
    obtain ⟨bs', h4, h5⟩ := erase_rep (f := fun i => a.tmps.getD i undef) (fun i => i != t) h1
    exact ⟨r.le, r.sub, r.fr, r.defers, r.size, r.lk, ⟨bs', h4, h2.sublist h5, fun b hb => h3 b (h5.subset hb)⟩, r.fz⟩
theorem lookS_rep {H : Fz} {w : World} {f : Nat → Value} {t : Nat} {x : D} : ∀ {s : Sl} {bs : List Nat}, IV.RepL H w (s.map (·.2)) (s.map fun p => f p.1) bs → lookS s t = .d x → x.RepV H (f t)
  | [], bs, h, hl => by simp [lookS, assoc] at hl
  | (i, y) :: s, bs, h, hl => by
    simp only [List.map_cons] at h
    unfold IV.RepL at h
    obtain ⟨v, r, b1, b2, he, rfl, h1, h2⟩ := h
    simp only [List.cons.injEq] at he
    obtain ⟨rfl, rfl⟩ := he
    unfold lookS assoc at hl
    by_cases hi : i = t
    · subst hi
      rw [if_pos rfl] at hl
      subst hl
      unfold IV.Rep at h1
      exact h1.1
    · rw [if_neg hi] at hl
      exact lookS_rep h2 hl

/-- The rest of a scope, from a label on. -/
def ScopeRun (P : Program) (c rest : Code) (Q : Exit → Act → World → Prop) (a : Act) (w : World) : Prop :=
  ∀ (b : Frame) (k : List Item) (cs : List Frame), ∃ e a' w', Q e a' w' ∧ Arrives P (lone (b.at a (.code rest :: .inScope c :: k)) cs w) b k cs e a' w'
/-- By a goto to a label of the scope: the rest from there; to another one: out. -/
def ScopeQ (P : Program) (c : Code) (Q : Exit → Act → World → Prop) : Exit → Act → World → Prop
  | .goto l, a, w => match findLabel c l with
    | some rest => ScopeRun P c rest Q a w
    | none => Q (.goto l) a w
  | e, a, w => Q e a w
theorem scopeRun_of {P : Program} {c rest : Code} {Q : Exit → Act → World → Prop} {a : Act} {w : World} (h : rest.wp P (ScopeQ P c Q) a w) : ScopeRun P c rest Q a w := by
  intro b k cs
  obtain ⟨e, a₁, w₁, hq, harr⟩ := h b (.inScope c :: k) cs
  cases e with
  | normal => exact ⟨.normal, a₁, w₁, hq, Steps.trans harr (.one step_inScope)⟩
  | exit id => exact ⟨.exit id, a₁, w₁, hq, fun k' hk => harr k' (by simp [exitTo, hk])⟩
  | goto l =>
    simp only [ScopeQ] at hq
    split at hq
    · rename_i rest' hl
      obtain ⟨e₂, a₂, w₂, hq₂, harr₂⟩ := hq b k cs
      exact ⟨e₂, a₂, w₂, hq₂, .of_steps (harr _ (by simp [gotoIn, hl])) harr₂⟩
    · rename_i hl
      exact ⟨.goto l, a₁, w₁, hq, fun k' hk => harr k' (by simp [gotoIn, hl, hk])⟩
  | ret => exact ⟨_, a₁, w₁, hq, harr⟩
  | panic ch => exact ⟨_, a₁, w₁, hq, harr⟩
  | outgrown => exact ⟨_, a₁, w₁, hq, harr⟩
theorem scope_of {P : Program} {c : Code} {Q : Exit → Act → World → Prop} {a : Act} {w : World} (h : ScopeRun P c c Q a w) : (Code.scope c).wp P Q a w := by
  intro b k cs
  obtain ⟨e, a₁, w₁, hq, harr⟩ := h b k cs
  exact ⟨e, a₁, w₁, hq, .of_steps (.one step_scope) harr⟩
/-- A loop, from its head on. -/
def LoopRun (P : Program) (c : Code) (Q : Exit → Act → World → Prop) (a : Act) (w : World) : Prop :=
  ∀ (b : Frame) (k : List Item) (cs : List Frame), ∃ e a' w', Q e a' w' ∧ Arrives P (lone (b.at a (.code c :: .inLoop c :: k)) cs w) b k cs e a' w'
theorem loopRun_of {P : Program} {c : Code} {Q : Exit → Act → World → Prop} {a : Act} {w : World} (h : c.wp P (Exit.then (LoopRun P c Q) Q) a w) : LoopRun P c Q a w := by
  intro b k cs
  obtain ⟨e, a₁, w₁, hq, harr⟩ := h b (.inLoop c :: k) cs
  cases e with
  | normal =>
    obtain ⟨e₂, a₂, w₂, hq₂, harr₂⟩ := hq b k cs
    exact ⟨e₂, a₂, w₂, hq₂, .of_steps (Steps.trans harr (.one step_inLoop)) harr₂⟩
  | exit id => exact ⟨_, a₁, w₁, hq, .pass (x := .inLoop c) rfl (fun _ _ => .inl (by simp)) harr⟩
  | goto l => exact ⟨_, a₁, w₁, hq, .pass (x := .inLoop c) rfl (fun _ _ => .inl (by simp)) harr⟩
  | ret => exact ⟨_, a₁, w₁, hq, .pass (x := .inLoop c) rfl (fun _ _ => .inl (by simp)) harr⟩
  | panic ch => exact ⟨_, a₁, w₁, hq, .pass (x := .inLoop c) rfl (fun _ _ => .inl (by simp)) harr⟩
  | outgrown => exact ⟨_, a₁, w₁, hq, .pass (x := .inLoop c) rfl (fun _ _ => .inl (by simp)) harr⟩
theorem loop_of {P : Program} {c : Code} {Q : Exit → Act → World → Prop} {a : Act} {w : World} (h : LoopRun P c Q a w) : (Code.loop c).wp P Q a w := by
  intro b k cs
  obtain ⟨e, a₁, w₁, hq, harr⟩ := h b k cs
  exact ⟨e, a₁, w₁, hq, .of_steps (.one step_loop) harr⟩

/-- What the two ways on, around a loop and from a label, tell is what the machine does. -/
structure JOk (X : Cx) (Jl : Code → Sl → Option Out) (Jg : Code → Code → Sl → Option Out) : Prop where
  l : ∀ c s out, Jl c s = some out → ∀ H a w, SRel X H s a w → ∀ Q, OutQ X out Q → LoopRun X.P c Q a w
  g : ∀ c rest s out, Jg c rest s = some out → ∀ H a w, SRel X H s a w → ∀ Q, OutQ X out Q → ScopeRun X.P c rest Q a w
theorem evS_ok (k : Cxk X E) (hm : X.P.follows .mixedOrders = true) (hC : CSound X.P E.G C) {K : Keep} {Jl : Code → Sl → Option Out} {Jg : Code → Code → Sl → Option Out} (hJ : JOk X Jl Jg) : ∀ (c : Code) (s : Sl) (out : Out), evS E C K Jl Jg c s = some out → ∀ H a w, SRel X H s a w → ∀ Q, OutQ X out Q → c.wp X.P Q a w
  | .skip, s, out, h, H, a, w, r, Q, hQ => by
    simp only [evS, Option.some.injEq] at h
    subst h
    exact wp_skip (hQ _ _ _ r)
  | .region id ops draw, s, out, h, H, a, w, r, Q, hQ => by
    unfold evS at h
    split at h
    · rename_i s' h1
      simp only [Option.some.injEq] at h
      subst h
      exact regionEv_ok k hm hC r h1 fun H' a' w' r' => hQ _ _ _ r'
    · cases h
  | .seq x y, s, out, h, H, a, w, r, Q, hQ => by
    unfold evS at h
    split at h
    · rename_i s' h1
      refine wp_seq (evS_ok k hm hC hJ x s _ h1 H a w r _ ?_)
      intro H' a' w' r'
      exact evS_ok k hm hC hJ y s' out h H' a' w' r' Q hQ
    · rename_i hn
      refine wp_seq (evS_ok k hm hC hJ x s out h H a w r _ ?_)
      cases out with
      | norm s' => exact (hn _ h).elim
      | exit id s' => exact hQ
      | goto l s' => exact hQ
      | ret s' => exact hQ
  | .cond c x y, s, out, h, H, a, w, r, Q, hQ => by
    cases c with
    | tmp t =>
      unfold evS at h
      split at h
      · rename_i b hb
        obtain ⟨bs, h1, _⟩ := r.rep
        have hv := lookS_rep (f := fun i => a.tmps.getD i undef) h1 hb
        have hv' : a.eval (.tmp t) = .bool b := by simpa [D.RepV, D.Rep, Act.eval] using hv
        refine wp_cond hv' ?_
        cases b with
        | true =>
          simp only [if_true] at h ⊢
          exact evS_ok k hm hC hJ x _ out h H a w (leaveS_rel r K t) Q hQ
        | false =>
          simp only [Bool.false_eq_true, if_false] at h ⊢
          exact evS_ok k hm hC hJ y _ out h H a w (leaveS_rel r K t) Q hQ
      · cases h
    | _ => simp [evS] at h
  | .block id c, s, out, h, H, a, w, r, Q, hQ => by
    unfold evS at h
    refine wp_block ?_
    split at h
    · rename_i i s' h1
      refine evS_ok k hm hC hJ c s _ h1 H a w r _ ?_
      split at h
      · rename_i hi
        simp only [Option.some.injEq] at h
        subst h
        intro H' a' w' r'
        simp only [Exit.inBlock, hi, if_true]
        exact hQ _ _ _ r'
      · rename_i hi
        simp only [Option.some.injEq] at h
        subst h
        intro H' a' w' r'
        simp only [Exit.inBlock, hi, if_false]
        exact hQ _ _ _ r'
    · rename_i hn
      refine evS_ok k hm hC hJ c s out h H a w r _ ?_
      cases out with
      | norm s' => exact hQ
      | exit i s' => exact (hn _ _ h).elim
      | goto l s' => exact hQ
      | ret s' => exact hQ
  | .loop c, s, out, h, H, a, w, r, Q, hQ => by
    unfold evS at h
    refine loop_of (loopRun_of ?_)
    split at h
    · rename_i s' h1
      refine evS_ok k hm hC hJ c s _ h1 H a w r _ ?_
      intro H' a' w' r'
      exact hJ.l c s' out h H' a' w' r' Q hQ
    · rename_i hn
      refine evS_ok k hm hC hJ c s out h H a w r _ ?_
      cases out with
      | norm s' => exact (hn _ h).elim
      | exit i s' => exact hQ
      | goto l s' => exact hQ
      | ret s' => exact hQ
  | .rangeFunc _ _ _ _, s, out, h, H, a, w, r, Q, hQ => by simp [evS] at h
  | .exit id, s, out, h, H, a, w, r, Q, hQ => by
    simp only [evS, Option.some.injEq] at h
    subst h
    exact wp_exit (hQ _ _ _ r)
  | .scope c, s, out, h, H, a, w, r, Q, hQ => by
    unfold evS at h
    refine scope_of (scopeRun_of ?_)
    split at h
    · rename_i l s' h1
      refine evS_ok k hm hC hJ c s _ h1 H a w r _ ?_
      intro H' a' w' r'
      simp only [ScopeQ]
      split at h
      · rename_i rest hr
        (try rw [hr])
        exact hJ.g c rest s' out h H' a' w' r' Q hQ
      · rename_i hr
        (try rw [hr])
        simp only [Option.some.injEq] at h
        subst h
        exact hQ _ _ _ r'
    · rename_i hn
      refine evS_ok k hm hC hJ c s out h H a w r _ ?_
      cases out with
      | norm s' => exact hQ
      | exit i s' => exact hQ
      | goto l s' => exact (hn _ _ h).elim
      | ret s' => exact hQ
  | .label l, s, out, h, H, a, w, r, Q, hQ => by
    simp only [evS, Option.some.injEq] at h
    subst h
    exact wp_label (hQ _ _ _ r)
  | .goto l, s, out, h, H, a, w, r, Q, hQ => by
    simp only [evS, Option.some.injEq] at h
    subst h
    exact wp_goto (hQ _ _ _ r)
  | .ret, s, out, h, H, a, w, r, Q, hQ => by
    simp only [evS, Option.some.injEq] at h
    subst h
    exact wp_ret (hQ _ _ _ r)
  | .refuse _, s, out, h, H, a, w, r, Q, hQ => by simp [evS] at h
theorem evJ_ok (k : Cxk X E) (hm : X.P.follows .mixedOrders = true) (hC : CSound X.P E.G C) {K : Keep} : ∀ n : Nat, JOk X (evJ E C K n).1 (evJ E C K n).2
  | 0 => ⟨fun c s out h => by simp [evJ] at h, fun c rest s out h => by simp [evJ] at h⟩
  | n + 1 => by
    have ih := evJ_ok k hm hC (K := K) n
    refine ⟨fun c s out h H a w r Q hQ => ?_, fun c rest s out h H a w r Q hQ => ?_⟩
    · simp only [evJ] at h
      refine loopRun_of ?_
      split at h
      · rename_i s' h1
        refine evS_ok k hm hC ih c s _ h1 H a w r _ ?_
        intro H' a' w' r'
        exact ih.l c s' out h H' a' w' r' Q hQ
      · rename_i hn
        refine evS_ok k hm hC ih c s out h H a w r _ ?_
        cases out with
        | norm s' => exact (hn _ h).elim
        | exit i s' => exact hQ
        | goto l s' => exact hQ
        | ret s' => exact hQ
    · simp only [evJ] at h
      refine scopeRun_of ?_
      split at h
      · rename_i l s' h1
        refine evS_ok k hm hC ih rest s _ h1 H a w r _ ?_
        intro H' a' w' r'
        simp only [ScopeQ]
        split at h
        · rename_i rest' hr
          (try rw [hr])
          exact ih.g c rest' s' out h H' a' w' r' Q hQ
        · rename_i hr
          (try rw [hr])
          simp only [Option.some.injEq] at h
          subst h
          exact hQ _ _ _ r'
      · rename_i hn
        refine evS_ok k hm hC ih rest s out h H a w r _ ?_
        cases out with
        | norm s' => exact hQ
        | exit i s' => exact hQ
        | goto l s' => exact (hn _ _ h).elim
        | ret s' => exact hQ
end
end Go.Ab
