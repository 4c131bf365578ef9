/- Regions whose order the machine draws: operations that write nothing that others read come to the same in any order. No condition. -/
import Derived.Test.YtoghhgceanlkkaaAbRegion
set_option linter.unusedVariables false
set_option linter.unusedSimpArgs false
namespace Go.Ab
open Go

def St.get (σ : St) : Loc → Val × Ent
  | .s i => (σ.getS i, .fresh)
  | .t t => (.dead, σ.getT t)
def St.eqv (σ τ : St) : Prop := ∀ l, σ.get l = τ.get l
theorem St.eqv.refl (σ : St) : σ.eqv σ := fun _ => rfl
theorem St.eqv.trans {σ τ υ : St} (h : σ.eqv τ) (h' : τ.eqv υ) : σ.eqv υ := fun l => (h l).trans (h' l)
theorem St.eqv.symm {σ τ : St} (h : σ.eqv τ) : τ.eqv σ := fun l => (h l).symm
theorem St.eqv.s {σ τ : St} (h : σ.eqv τ) (i : Nat) : σ.getS i = τ.getS i := congrArg Prod.fst (h (.s i))
theorem St.eqv.t {σ τ : St} (h : σ.eqv τ) (t : Tok) : σ.getT t = τ.getT t := congrArg Prod.snd (h (.t t))
theorem get_putS (σ : St) (i : Nat) (v : Val) (l : Loc) : (σ.putS i v).get l = if l = .s i then (v, .fresh) else σ.get l := by
  cases l with
  | s j =>
    show ((σ.putS i v).getS j, _) = _
    rw [St.getS_putS]
    by_cases h : i = j
    · subst h; simp
    · rw [if_neg h, if_neg (by intro e; cases e; exact h rfl)]; rfl
  | t u => rw [if_neg (by simp)]; rfl
theorem get_putT (σ : St) (t : Tok) (e : Ent) (l : Loc) : (σ.putT t e).get l = if l = .t t then (.dead, e) else σ.get l := by
  cases l with
  | s j => rw [if_neg (by simp)]; rfl
  | t u =>
    show (_, (σ.putT t e).getT u) = _
    rw [St.getT_putT]
    by_cases h : t = u
    · subst h; simp
    · rw [if_neg h, if_neg (by intro e; cases e; exact h rfl)]; rfl

section
variable {C : Caller}

/-- What an operation does hangs on what it reads alone. -/
theorem Prog.local (p : Prog) : ∀ {σ σ' τ : St}, p.run C σ = some σ' → (∀ l ∈ (p.logs C σ).1, τ.get l = σ.get l) →
    ∃ τ', p.run C τ = some τ' ∧ p.logs C τ = p.logs C σ ∧ (∀ l ∈ (p.logs C σ).2, τ'.get l = σ'.get l) ∧ ∀ l, l ∉ (p.logs C σ).2 → τ'.get l = τ.get l ∧ σ'.get l = σ.get l := by
  induction p with
  | ret =>
    intro σ σ' τ h _
    simp only [Prog.run, Option.some.injEq] at h
    subst h
    exact ⟨τ, rfl, rfl, by simp [Prog.logs], fun l _ => ⟨rfl, rfl⟩⟩
  | fail => intro σ σ' τ h; simp [Prog.run] at h
  | getS i k ih =>
    intro σ σ' τ h hr
    simp only [Prog.run, Prog.logs] at h hr ⊢
    have e : τ.getS i = σ.getS i := congrArg Prod.fst (hr (.s i) (by simp))
    rw [e]
    obtain ⟨τ', h1, h2, h3, h4⟩ := ih (σ.getS i) h (fun l hl => hr l (List.mem_cons_of_mem _ hl))
    exact ⟨τ', h1, by rw [h2], h3, h4⟩
  | getT t k ih =>
    intro σ σ' τ h hr
    simp only [Prog.run, Prog.logs] at h hr ⊢
    have e : τ.getT t = σ.getT t := congrArg Prod.snd (hr (.t t) (by simp))
    rw [e]
    obtain ⟨τ', h1, h2, h3, h4⟩ := ih (σ.getT t) h (fun l hl => hr l (List.mem_cons_of_mem _ hl))
    exact ⟨τ', h1, by rw [h2], h3, h4⟩
  | putS i v k ih =>
    intro σ σ' τ h hr
    simp only [Prog.run, Prog.logs] at h hr ⊢
    obtain ⟨τ', h1, h2, h3, h4⟩ := ih (σ := σ.putS i v) (τ := τ.putS i v) h (fun l hl => by
      rw [get_putS, get_putS]
      split
      · rfl
      · exact hr l hl)
    refine ⟨τ', h1, by rw [h2], fun l hl => ?_, fun l hl => ?_⟩
    · by_cases hm : l ∈ (k.logs C (σ.putS i v)).2
      · exact h3 l hm
      · have := h4 l hm
        rw [this.1, this.2, get_putS, get_putS]
        rcases List.mem_cons.1 hl with rfl | hl
        · simp
        · exact (hm hl).elim
    · simp only [List.mem_cons, not_or] at hl
      have := h4 l hl.2
      rw [this.1, this.2, get_putS, get_putS, if_neg hl.1, if_neg hl.1]
      exact ⟨rfl, rfl⟩
  | putT t e k ih =>
    intro σ σ' τ h hr
    simp only [Prog.run, Prog.logs] at h hr ⊢
    obtain ⟨τ', h1, h2, h3, h4⟩ := ih (σ := σ.putT t e) (τ := τ.putT t e) h (fun l hl => by
      rw [get_putT, get_putT]
      split
      · rfl
      · exact hr l hl)
    refine ⟨τ', h1, by rw [h2], fun l hl => ?_, fun l hl => ?_⟩
    · by_cases hm : l ∈ (k.logs C (σ.putT t e)).2
      · exact h3 l hm
      · have := h4 l hm
        rw [this.1, this.2, get_putT, get_putT]
        rcases List.mem_cons.1 hl with rfl | hl
        · simp
        · exact (hm hl).elim
    · simp only [List.mem_cons, not_or] at hl
      have := h4 l hl.2
      rw [this.1, this.2, get_putT, get_putT, if_neg hl.1, if_neg hl.1]
      exact ⟨rfl, rfl⟩
  | need p k ih =>
    intro σ σ' τ h hr
    obtain ⟨hp, h⟩ := need_run h
    simp only [Prog.logs] at hr ⊢
    obtain ⟨τ', h1, h2⟩ := ih h hr
    exact ⟨τ', by simp only [Prog.run, if_pos hp]; exact h1, h2⟩
  | elem tg xs i k ih =>
    intro σ σ' τ h hr
    obtain ⟨x, hx, h⟩ := elem_run h
    simp only [Prog.logs, hx] at hr ⊢
    obtain ⟨τ', h1, h2⟩ := ih x h hr
    exact ⟨τ', by simp only [Prog.run, hx]; exact h1, h2⟩
  | br b x y ihx ihy =>
    intro σ σ' τ h hr
    simp only [Prog.run, Prog.logs] at h hr ⊢
    by_cases hb : b = true
    · simp only [hb, if_true] at h hr ⊢
      exact ihx h hr
    · simp only [hb, if_false, Bool.false_eq_true] at h hr ⊢
      exact ihy h hr
  | call f args k ih =>
    intro σ σ' τ h hr
    simp only [Prog.run, Prog.logs] at h hr ⊢
    cases hc : C f args with
    | none => rw [hc] at h; cases h
    | some p =>
      obtain ⟨r, outs⟩ := p
      rw [hc] at h hr
      exact ih r outs h hr

def Apart2 (x y : List Loc × List Loc) : Bool := x.2.all (fun l => !(y.1.contains l) && !(y.2.contains l)) && y.2.all (fun l => !(x.1.contains l))
theorem apart2_spec {x y : List Loc × List Loc} (h : Apart2 x y = true) : (∀ l ∈ x.2, l ∉ y.1 ∧ l ∉ y.2) ∧ ∀ l ∈ y.2, l ∉ x.1 := by
  simp only [Apart2, Bool.and_eq_true, List.all_eq_true, Bool.not_eq_true', List.contains_eq_mem, decide_eq_false_iff_not] at h
  exact ⟨fun l hl => h.1 l hl, fun l hl => h.2 l hl⟩
theorem eqv_run {p : Prog} {σ τ σ' : St} (h : p.run C σ = some σ') (he : τ.eqv σ) : ∃ τ', p.run C τ = some τ' ∧ p.logs C τ = p.logs C σ ∧ τ'.eqv σ' := by
  obtain ⟨τ', h1, h2, h3, h4⟩ := p.local h (τ := τ) (fun l _ => he l)
  refine ⟨τ', h1, h2, fun l => ?_⟩
  by_cases hl : l ∈ (p.logs C σ).2
  · exact h3 l hl
  · rw [(h4 l hl).1, (h4 l hl).2]; exact he l
theorem commute {p q : Prog} {σ σ1 σ2 : St} (h1 : p.run C σ = some σ1) (h2 : q.run C σ1 = some σ2) (ha : Apart2 (p.logs C σ) (q.logs C σ1) = true) :
    ∃ τ1 τ2, q.run C σ = some τ1 ∧ q.logs C σ = q.logs C σ1 ∧ p.run C τ1 = some τ2 ∧ p.logs C τ1 = p.logs C σ ∧ τ2.eqv σ2 := by
  obtain ⟨a1, a2⟩ := apart2_spec ha
  obtain ⟨_, _, _, _, hp⟩ := p.local h1 (τ := σ) (fun l _ => rfl)
  have hr : ∀ l ∈ (q.logs C σ1).1, σ.get l = σ1.get l := fun l hl => by
    have : l ∉ (p.logs C σ).2 := fun hm => (a1 l hm).1 hl
    exact ((hp l this).2).symm
  obtain ⟨τ1, k1, k2, k3, k4⟩ := q.local h2 (τ := σ) hr
  have hr2 : ∀ l ∈ (p.logs C σ).1, τ1.get l = σ.get l := fun l hl => by
    have : l ∉ (q.logs C σ1).2 := fun hm => a2 l hm hl
    exact (k4 l this).1
  obtain ⟨τ2, m1, m2, m3, m4⟩ := p.local h1 (τ := τ1) hr2
  refine ⟨τ1, τ2, k1, k2, m1, m2, fun l => ?_⟩
  by_cases hl : l ∈ (p.logs C σ).2
  · rw [m3 l hl]
    exact ((k4 l (a1 l hl).2).2).symm
  · rw [(m4 l hl).1]
    by_cases hl2 : l ∈ (q.logs C σ1).2
    · exact k3 l hl2
    · rw [(k4 l hl2).1, (k4 l hl2).2, (hp l hl).2]

/-- One behind the other, with what is read and written told. -/
def RunsTo (C : Caller) (f : Nat → Prog) (ℓ : Nat → List Loc × List Loc) : List Nat → St → St → Prop
  | [], σ, σ' => σ.eqv σ'
  | i :: r, σ, σ' => ∃ σ1, (f i).run C σ = some σ1 ∧ (f i).logs C σ = ℓ i ∧ RunsTo C f ℓ r σ1 σ'
theorem RunsTo.eqv {f : Nat → Prog} {ℓ : Nat → List Loc × List Loc} : ∀ {l : List Nat} {σ τ σ' : St}, RunsTo C f ℓ l σ σ' → τ.eqv σ → RunsTo C f ℓ l τ σ'
  | [], σ, τ, σ', h, he => he.trans h
  | i :: r, σ, τ, σ', h, he => by
    obtain ⟨σ1, h1, h2, h3⟩ := h
    obtain ⟨τ1, k1, k2, k3⟩ := eqv_run h1 he
    exact ⟨τ1, k1, k2.trans h2, RunsTo.eqv h3 k3⟩
theorem RunsTo.first {f : Nat → Prog} {ℓ : Nat → List Loc × List Loc} {i : Nat} {r : List Nat} {σ' : St} : ∀ {js : List Nat} {σ : St}, RunsTo C f ℓ (js ++ i :: r) σ σ' → (∀ j ∈ js, Apart2 (ℓ j) (ℓ i) = true) →
    ∃ σ1, (f i).run C σ = some σ1 ∧ (f i).logs C σ = ℓ i ∧ RunsTo C f ℓ (js ++ r) σ1 σ'
  | [], σ, h, _ => h
  | j :: js, σ, h, ha => by
    obtain ⟨σj, h1, h2, h3⟩ := h
    obtain ⟨σ1, k1, k2, k3⟩ := RunsTo.first h3 (fun j' hj' => ha j' (List.mem_cons_of_mem _ hj'))
    have hap : Apart2 ((f j).logs C σ) ((f i).logs C σj) = true := by rw [h2, k2]; exact ha j (by simp)
    obtain ⟨τ1, τ2, m1, m2, m3, m4, m5⟩ := commute h1 k1 hap
    exact ⟨τ1, m1, m2.trans k2, τ2, m3, m4.trans h2, RunsTo.eqv k3 m5⟩
end

theorem Rel.congr {X : Cx} {H : Fz} {L : Vl} {σ τ : St} {a : Act} {w : World} (r : Rel X H L σ a w) (h : τ.eqv σ) : Rel X H L τ a w where
  le := r.le
  sub := r.sub
  fr := r.fr
  defers := r.defers
  size := r.size
  env := fun i => by rw [h.s]; exact r.env i
  ents := fun t => by rw [h.t]; exact r.ents t
  apart := fun t t' b hne h1 h2 => by rw [h.t] at h1 h2; exact r.apart t t' b hne h1 h2
  lk := r.lk
  fz := r.fz

/-! ### The orders -/
/-- The operations that must come ahead, and those ahead of these. -/
def predsL : List Oper → List (List Nat) → List (List Nat)
  | [], acc => acc
  | o :: r, acc => predsL r (acc ++ [(o.after.toList.flatMap fun e => if Region.binds .any e then e.on :: acc.getD e.on [] else []).eraseDups])
/-- All edges lead back. -/
def edgesOk : List Oper → Nat → Bool
  | [], _ => true
  | o :: r, i => o.after.toList.all (fun e => !Region.binds .any e || decide (e.on < i)) && edgesOk r (i + 1)
/-- Each two operations are told one ahead of the other, or are apart. -/
def pairsOk (ps : List (List Nat)) (ls : List (List Loc × List Loc)) : Bool :=
  (List.range ls.length).all fun i => (List.range i).all fun j => (ps.getD i []).contains j || Apart2 (ls.getD j ([], [])) (ls.getD i ([], []))

/-- j must come ahead of i. -/
inductive Ahead (ops : Array Oper) : Nat → Nat → Prop
  | one {i : Nat} {o : Oper} {e : Edge} (hi : ops[i]? = some o) (he : e ∈ o.after) (hb : Region.binds .any e = true) : Ahead ops e.on i
  | more {i j : Nat} {o : Oper} {e : Edge} (hi : ops[i]? = some o) (he : e ∈ o.after) (hb : Region.binds .any e = true) (h : Ahead ops j e.on) : Ahead ops j i
theorem predsL_ahead (ops : Array Oper) : ∀ (l : List Oper) (acc : List (List Nat)), (∀ i o, l[i]? = some o → ops[acc.length + i]? = some o) → (∀ i j, j ∈ acc.getD i [] → Ahead ops j i) → ∀ i j, j ∈ (predsL l acc).getD i [] → Ahead ops j i
  | [], acc, _, h => h
  | o :: r, acc, hl, h => by
    unfold predsL
    refine predsL_ahead ops r _ (fun i o' ho' => ?_) (fun i j hj => ?_)
    · have := hl (i + 1) o' (by simpa using ho')
      rw [List.length_append]
      simpa [Nat.add_assoc, Nat.add_comm 1 i] using this
    · rw [List.getD_eq_getElem?_getD] at hj
      by_cases hi : i < acc.length
      · rw [List.getElem?_append_left hi] at hj
        exact h i j (by rw [List.getD_eq_getElem?_getD]; exact hj)
      · rw [List.getElem?_append_right (Nat.le_of_not_lt hi)] at hj
        by_cases hi2 : i - acc.length = 0
        · have he : i = acc.length := by omega
          rw [hi2] at hj
          simp only [List.getElem?_cons_zero, Option.getD_some, List.mem_eraseDups, List.mem_flatMap] at hj
          obtain ⟨e, he1, he2⟩ := hj
          split at he2
          · rename_i hb
            have ho := hl 0 o (by simp)
            rw [Nat.add_zero, ← he] at ho
            rcases List.mem_cons.1 he2 with rfl | he2
            · exact .one ho (by simpa using he1) hb
            · exact .more ho (by simpa using he1) hb (h _ _ he2)
          · simp at he2
        · rw [List.getElem?_eq_none (by simp; omega)] at hj
          simp at hj
theorem ahead_listed {ops : Array Oper} {listed : Array Bool} (hdc : ∀ k o, listed.getD k false = true → ops[k]? = some o → ∀ e ∈ o.after, Region.binds .any e = true → listed.getD e.on false = true) {i j : Nat} (h : Ahead ops j i) :
    (∀ o, ops[i]? = some o → ∀ e ∈ o.after, Region.binds .any e = true → listed.getD e.on false = true) → listed.getD j false = true := by
  induction h with
  | one hi he hb => exact fun h => h _ hi _ he hb
  | more hi he hb h ih => exact fun h2 => ih (fun o ho e' he' hb' => hdc _ o (h2 _ hi _ he hb) ho e' he' hb')

section
variable {X : Cx} {E : Ev} {C : Caller}

theorem edgesOk_spec {ops : Array Oper} : ∀ (l : List Oper) (i : Nat), edgesOk l i = true → ∀ k o, l[k]? = some o → ∀ e ∈ o.after, Region.binds .any e = true → e.on < i + k
  | [], _, _, k, o, hk => by simp at hk
  | o :: r, i, h, k, o', hk => by
    unfold edgesOk at h
    simp only [Bool.and_eq_true] at h
    intro e he hb
    cases k with
    | zero =>
      simp at hk
      subst hk
      have := List.all_eq_true.1 h.1 e (by simpa using he)
      simp [hb] at this
      omega
    | succ k =>
      have := edgesOk_spec (ops := ops) r (i + 1) h.2 k o' (by simpa using hk) e he hb
      omega

/-- The numbers that have not come up yet. -/
def rest (n : Nat) (listed : Array Bool) : List Nat := (List.range n).filter fun i => !listed.getD i true
theorem rest_split {n : Nat} {listed : Array Bool} {i : Nat} (hs : listed.size = n) (hi : i ∈ rest n listed) : ∃ js r, rest n listed = js ++ i :: r ∧ rest n (listed.setIfInBounds i true) = js ++ r ∧ ∀ j ∈ js, j < i ∧ listed.getD j true = false := by
  have hm := List.mem_filter.1 hi
  have hin : i < n := List.mem_range.1 hm.1
  have hsplit : List.range n = List.range i ++ i :: List.range' (i + 1) (n - i - 1) := by
    have e1 : List.range n = List.range' 0 n := List.range_eq_range'
    have e2 : n = i + (1 + (n - i - 1)) := by omega
    rw [e1]
    conv => lhs; rw [e2]
    rw [← List.range'_append_1, ← List.range_eq_range', Nat.zero_add, Nat.add_comm 1, List.range'_succ]
  have hne : ∀ j, j ≠ i → (listed.setIfInBounds i true).getD j true = listed.getD j true := fun j hj => getD_set_ne true (Ne.symm hj)
  refine ⟨(List.range i).filter fun i => !listed.getD i true, (List.range' (i + 1) (n - i - 1)).filter fun i => !listed.getD i true, ?_, ?_, fun j hj => ?_⟩
  · unfold rest
    rw [hsplit, List.filter_append, List.filter_cons, if_pos hm.2]
  · unfold rest
    rw [hsplit, List.filter_append, List.filter_cons, if_neg (by simp [hs, hin])]
    congr 1
    · refine List.filter_congr fun j hj => ?_
      rw [hne j (by have := List.mem_range.1 hj; omega)]
    · refine List.filter_congr fun j hj => ?_
      rw [hne j (by have := List.mem_range'_1.1 hj; omega)]
  · have := List.mem_filter.1 hj
    exact ⟨List.mem_range.1 this.1, by simpa using this.2⟩
theorem draw_ok (k : Cxk X E) (hC : CSound X.P E.G C) {ops : Array Oper} {Q : Exit → Act → World → Prop} {σ' : St} (hQ : ∀ H' L' a' w', Rel X H' L' σ' a' w' → Q .normal a' w') {ℓ : Nat → List Loc × List Loc}
    (hedge : edgesOk ops.toList 0 = true) (hpair : ∀ i j, j < i → i < ops.size → Ahead ops j i ∨ Apart2 (ℓ j) (ℓ i) = true) :
    ∀ (fuel : Nat) (listed : Array Bool), listed.size = ops.size → (rest ops.size listed).length = fuel → (∀ k o, listed.getD k false = true → ops[k]? = some o → ∀ e ∈ o.after, Region.binds .any e = true → listed.getD e.on false = true) →
    ∀ {H : Fz} {L : Vl} {σ : St} {a : Act} {w : World}, Rel X H L σ a w → RunsTo C (fun i => match ops[i]? with | some o => guardP E ops o | none => .ret) ℓ (rest ops.size listed) σ σ' → wpAny X.P .any ops Q fuel listed a w
  | 0, listed, hs, hf, hdc, H, L, σ, a, w, r, h => by
    have hnil : rest ops.size listed = [] := List.eq_nil_of_length_eq_zero hf
    refine ⟨?_, ?_⟩
    · apply List.eq_nil_iff_forall_not_mem.2
      intro i hi
      obtain ⟨h1, o, ho, _⟩ := mem_ready.1 hi
      have : i ∈ rest ops.size listed := List.mem_filter.2 ⟨List.mem_range.2 (Array.getElem?_eq_some_iff.1 ho).1, by simp [h1]⟩
      rw [hnil] at this
      simp at this
    · rw [hnil] at h
      exact hQ _ _ _ _ (r.congr h.symm)
  | fuel + 1, listed, hs, hf, hdc, H, L, σ, a, w, r, h => by
    refine ⟨fun hready => ?_, fun i hi => ?_⟩
    · -- the first that has not come up may come up
      cases hr : rest ops.size listed with
      | nil => rw [hr] at hf; simp at hf
      | cons i rr =>
        exfalso
        have hi : i ∈ rest ops.size listed := by rw [hr]; simp
        obtain ⟨js, r2, e1, _, e3⟩ := rest_split hs hi
        have hjs : js = [] := by
          cases js with
          | nil => rfl
          | cons j js =>
            rw [hr] at e1
            simp only [List.cons_append, List.cons.injEq] at e1
            have := (e3 j (by simp)).1
            omega
        have hm := List.mem_filter.1 hi
        have hlt : i < ops.size := List.mem_range.1 hm.1
        have hmem : i ∈ Region.ready .any ops listed := mem_ready.2 ⟨by simpa using hm.2, ops[i], Array.getElem?_eq_getElem hlt, fun e he hb => by
          have h1 := edgesOk_spec (ops := ops) ops.toList 0 hedge i ops[i] (by simp [hlt]) e he hb
          rw [Nat.zero_add] at h1
          by_cases hl : listed.getD e.on false = true
          · exact hl
          · exfalso
            have hlt2 : e.on < listed.size := by omega
            have h2 : e.on ∈ rest ops.size listed := List.mem_filter.2 ⟨List.mem_range.2 (by omega), by
              simp [hlt2] at hl ⊢; exact hl⟩
            rw [e1, hjs] at h2
            rcases List.mem_cons.1 h2 with h3 | h3
            · omega
            · have hsorted : (rest ops.size listed).Pairwise (· < ·) := List.Pairwise.filter _ List.pairwise_lt_range
              rw [e1, hjs] at hsorted
              have := (List.pairwise_cons.1 hsorted).1 _ h3
              omega⟩
        rw [hready] at hmem
        simp at hmem
    · obtain ⟨h1, o, ho, hall⟩ := mem_ready.1 hi
      have hlt : i < ops.size := (Array.getElem?_eq_some_iff.1 ho).1
      have hir : i ∈ rest ops.size listed := List.mem_filter.2 ⟨List.mem_range.2 hlt, by simp [h1]⟩
      obtain ⟨js, r2, e1, e2, e3⟩ := rest_split hs hir
      rw [e1] at h
      obtain ⟨σ1, k1, k2, k3⟩ := RunsTo.first h (fun j hj => by
        have hj2 := e3 j hj
        rcases hpair i j hj2.1 hlt with ha | ha
        · exfalso
          have := ahead_listed hdc ha (fun o' ho' => by rw [ho] at ho'; cases ho'; exact hall)
          have hjl : j < listed.size := by omega
          have h4 := hj2.2
          simp [hjl] at this h4
          rw [h4] at this
          cases this
        · exact ha)
      rw [← e2] at k3
      simp only [ho] at k1
      refine guardP_ok k hC ho H L σ a w σ1 r k1 _ Q fun H' L' a' w' r' => ?_
      refine draw_ok k hC hQ hedge hpair fuel _ (by simpa using hs) ?_ (fun k' o' hk' ho' e he hb => ?_) r' k3
      · rw [e2]
        rw [e1] at hf
        simp at hf ⊢
        omega
      · by_cases hki : k' = i
        · subst hki
          rw [ho] at ho'
          cases ho'
          exact getD_set_true (hall e he hb)
        · refine getD_set_true (hdc k' o' ?_ ho' e he hb)
          rw [getD_set_ne false (Ne.symm hki)] at hk'
          exact hk'
end
end Go.Ab
