/- The evaluator, told as conditions: what must hold that a piece of code comes to an end, and how it stands there. No condition. -/
import Derived.Test.YtoghhgceanlkkaaAbTab
set_option linter.unusedVariables false
set_option linter.unusedSimpArgs false
namespace Go.Ab
open Go

def condW (b : Bool) (x y : Prop) : Prop := match b with
  | true => x
  | false => y
theorem condW_t {b : Bool} {x y : Prop} (h : b = true) (hx : x) : condW b x y := by subst h; exact hx
theorem condW_f {b : Bool} {x y : Prop} (h : b = false) (hy : y) : condW b x y := by subst h; exact hy

mutual
def Tag.ex : Tag → (D → Prop) → Prop
  | .any, P => ∃ x, P x
  | .int k, P => ∃ n, P (.int k n)
  | .bool, P => ∃ b, P (.bool b)
  | .str, P => ∃ s, P (.str s)
  | .flt k, P => ∃ b, P (.flt k b)
  | .cpx k, P => ∃ a b, P (.cpx k a b)
  | .sl sz, P => ∃ nl xs ext, P (.sl sz nl xs ext)
  | .agg ts, P => Tag.exL ts fun xs => P (.agg xs)
def Tag.exL : List Tag → (List D → Prop) → Prop
  | [], P => P []
  | t :: ts, P => Tag.ex t fun x => Tag.exL ts fun xs => P (x :: xs)
end
inductive ITag where
  | any
  | d (t : Tag)
  | own (e : TypeId) (sz : Nat)
  | dbox (ty : TypeId) (off : Nat) (ts : List Tag)
  | tup (ts : List ITag)
  | fn (f : FuncId) (ts : List ITag)
  | ptr (ty : TypeId) (off : Nat) (ts : List ITag)
mutual
def ITag.ex : ITag → (IV → Prop) → Prop
  | .any, P => ∃ x, P x
  | .d t, P => Tag.ex t fun x => P (.d x)
  | .own e sz, P => ∃ nl xs, P (.own nl e sz xs)
  | .dbox ty off ts, P => Tag.exL ts fun xs => P (.dbox ty off xs)
  | .tup ts, P => ITag.exL ts fun xs => P (.tup xs)
  | .fn f ts, P => ITag.exL ts fun xs => P (.fn f xs)
  | .ptr ty off ts, P => ITag.exL ts fun xs => P (.ptr ty off xs)
def ITag.exL : List ITag → (List IV → Prop) → Prop
  | [], P => P []
  | t :: ts, P => ITag.ex t fun x => ITag.exL ts fun xs => P (x :: xs)
end
mutual
theorem Tag.ex_of : ∀ (t : Tag) {P : D → Prop}, Tag.ex t P → ∃ x, P x
  | .any, P, h => h
  | .int k, P, ⟨n, h⟩ => ⟨_, h⟩
  | .bool, P, ⟨n, h⟩ => ⟨_, h⟩
  | .str, P, ⟨n, h⟩ => ⟨_, h⟩
  | .flt k, P, ⟨n, h⟩ => ⟨_, h⟩
  | .cpx k, P, ⟨n, m, h⟩ => ⟨_, h⟩
  | .sl sz, P, ⟨n, m, e, h⟩ => ⟨_, h⟩
  | .agg ts, P, h => by
    unfold Tag.ex at h
    obtain ⟨xs, h⟩ := Tag.exL_of ts h
    exact ⟨_, h⟩
theorem Tag.exL_of : ∀ (ts : List Tag) {P : List D → Prop}, Tag.exL ts P → ∃ xs, P xs
  | [], P, h => ⟨[], h⟩
  | t :: ts, P, h => by
    unfold Tag.exL at h
    obtain ⟨x, h⟩ := Tag.ex_of t h
    obtain ⟨xs, h⟩ := Tag.exL_of ts h
    exact ⟨_, h⟩
end
mutual
theorem ITag.ex_of : ∀ (t : ITag) {P : IV → Prop}, ITag.ex t P → ∃ x, P x
  | .any, P, h => h
  | .d t, P, h => by unfold ITag.ex at h; obtain ⟨x, h⟩ := Tag.ex_of t h; exact ⟨_, h⟩
  | .own e sz, P, ⟨n, m, h⟩ => ⟨_, h⟩
  | .dbox ty off ts, P, h => by unfold ITag.ex at h; obtain ⟨x, h⟩ := Tag.exL_of ts h; exact ⟨_, h⟩
  | .tup ts, P, h => by unfold ITag.ex at h; obtain ⟨x, h⟩ := ITag.exL_of ts h; exact ⟨_, h⟩
  | .fn f ts, P, h => by unfold ITag.ex at h; obtain ⟨x, h⟩ := ITag.exL_of ts h; exact ⟨_, h⟩
  | .ptr ty off ts, P, h => by unfold ITag.ex at h; obtain ⟨x, h⟩ := ITag.exL_of ts h; exact ⟨_, h⟩
theorem ITag.exL_of : ∀ (ts : List ITag) {P : List IV → Prop}, ITag.exL ts P → ∃ xs, P xs
  | [], P, h => ⟨[], h⟩
  | t :: ts, P, h => by
    unfold ITag.exL at h
    obtain ⟨x, h⟩ := ITag.ex_of t h
    obtain ⟨xs, h⟩ := ITag.exL_of ts h
    exact ⟨_, h⟩
end
/-- What the functions that are called hand back, and what becomes of what was lent to them. -/
abbrev Rets := FuncId → List (ITag × List ITag)
def retW : List (ITag × List ITag) → (IV → List IV → Prop) → Prop
  | [], _ => False
  | [(r, os)], P => ITag.ex r fun r => ITag.exL os fun os => P r os
  | (r, os) :: l, P => (ITag.ex r fun r => ITag.exL os fun os => P r os) ∨ retW l P
theorem retW_of : ∀ {l : List (ITag × List ITag)} {P : IV → List IV → Prop}, retW l P → ∃ r os, P r os
  | [], P, h => h.elim
  | [(r, os)], P, h => by
    obtain ⟨x, h1⟩ := ITag.ex_of _ h
    obtain ⟨os, h1⟩ := ITag.exL_of _ h1
    exact ⟨x, os, h1⟩
  | (r, os) :: y :: l, P, h => by
    rcases h with h | h
    · obtain ⟨x, h1⟩ := ITag.ex_of _ h
      obtain ⟨os, h1⟩ := ITag.exL_of _ h1
      exact ⟨x, os, h1⟩
    · exact retW_of (l := y :: l) h
/-- How a loop ends. -/
inductive OTag where
  | norm (l : List (Nat × ITag))
  | exit (id : Nat) (l : List (Nat × ITag))
  | ret (l : List (Nat × ITag))
def slEx : List (Nat × ITag) → (Sl → Prop) → Prop
  | [], P => P []
  | (i, t) :: r, P => ITag.ex t fun x => slEx r fun s => P ((i, x) :: s)
theorem slEx_of : ∀ (l : List (Nat × ITag)) {P : Sl → Prop}, slEx l P → ∃ s, P s
  | [], P, h => ⟨[], h⟩
  | (i, t) :: r, P, h => by
    unfold slEx at h
    obtain ⟨x, h⟩ := ITag.ex_of t h
    obtain ⟨xs, h⟩ := slEx_of r h
    exact ⟨_, h⟩
def OTag.ex : OTag → (Out → Prop) → Prop
  | .norm l, P => slEx l fun s => P (.norm s)
  | .exit id l, P => slEx l fun s => P (.exit id s)
  | .ret l, P => slEx l fun s => P (.ret s)
theorem OTag.ex_of : ∀ (t : OTag) {P : Out → Prop}, OTag.ex t P → ∃ s, P s
  | .norm l, P, h => let ⟨s, h⟩ := slEx_of l h; ⟨_, h⟩
  | .exit id l, P, h => let ⟨s, h⟩ := slEx_of l h; ⟨_, h⟩
  | .ret l, P, h => let ⟨s, h⟩ := slEx_of l h; ⟨_, h⟩
abbrev Lps := Nat → List OTag
def lpW : List OTag → (Out → Prop) → Prop
  | [], _ => False
  | [o], P => o.ex P
  | o :: l, P => o.ex P ∨ lpW l P
theorem lpW_of : ∀ {l : List OTag} {P : Out → Prop}, lpW l P → ∃ o, P o
  | [], P, h => h.elim
  | [o], P, h => OTag.ex_of o h
  | o :: p :: l, P, h => by
    rcases h with h | h
    · exact OTag.ex_of o h
    · exact lpW_of (l := p :: l) h
abbrev Logs := List Loc × List Loc
def boolV (v : Val) (P : Val → Prop) : Prop := match v with
  | .d (.bool b) => condW b (P (.d (.bool true))) (P (.d (.bool false)))
  | v => P v
theorem boolV_of {v : Val} {P : Val → Prop} (h : boolV v P) : P v := by
  unfold boolV at h
  split at h
  · rename_i b
    cases b <;> exact h
  · exact h
def optW {α : Type} (x : Option α) (P : α → Prop) : Prop := match x with
  | some x => P x
  | none => False
theorem optW_of {α : Type} {x : Option α} {P : α → Prop} (h : optW x P) : ∃ y, x = some y ∧ P y := by
  cases x with
  | none => exact h.elim
  | some y => exact ⟨y, rfl, h⟩
def wpP (C : Caller) (R : Rets) : Prog → St → (St → Logs → Prop) → Prop
  | .ret, σ, Q => Q σ ([], [])
  | .fail, _, _ => False
  | .getS i k, σ, Q => wpP C R (k (σ.getS i)) σ fun σ' l => Q σ' (.s i :: l.1, l.2)
  | .putS i v k, σ, Q => boolV v fun v => wpP C R k (σ.putS i v) fun σ' l => Q σ' (l.1, .s i :: l.2)
  | .getT t k, σ, Q => wpP C R (k (σ.getT t)) σ fun σ' l => Q σ' (.t t :: l.1, l.2)
  | .putT t e k, σ, Q => wpP C R k (σ.putT t e) fun σ' l => Q σ' (l.1, .t t :: l.2)
  | .need p k, σ, Q => condW p (wpP C R k σ Q) False
  | .elem t xs i k, σ, Q => match t with
    | some t => Tag.ex t fun x => xs[i]? = some x ∧ wpP C R (k x) σ Q
    | none => optW xs[i]? fun x => wpP C R (k x) σ Q
  | .br b x y, σ, Q => condW b (wpP C R x σ Q) (wpP C R y σ Q)
  | .call f args k, σ, Q => retW (R f) fun r os => C f args = some (r, os) ∧ wpP C R (k r os) σ Q
theorem wpP_run {C : Caller} {R : Rets} : ∀ (p : Prog) {σ : St} {Q : St → Logs → Prop}, wpP C R p σ Q → ∃ σ', p.run C σ = some σ' ∧ Q σ' (p.logs C σ)
  | .ret, σ, Q, h => ⟨σ, rfl, h⟩
  | .fail, _, _, h => h.elim
  | .getS i k, σ, Q, h => wpP_run (k (σ.getS i)) h
  | .putS i v k, σ, Q, h => by
    have h1 := boolV_of (P := fun v => wpP C R k (σ.putS i v) fun σ' l => Q σ' (l.1, .s i :: l.2)) h
    exact wpP_run k h1
  | .getT t k, σ, Q, h => wpP_run (k (σ.getT t)) h
  | .putT t e k, σ, Q, h => wpP_run k h
  | .need p k, σ, Q, h => by
    cases p with
    | true =>
      obtain ⟨b, c, d⟩ := wpP_run k h
      exact ⟨b, c, d⟩
    | false => exact h.elim
  | .elem t xs i k, σ, Q, h => by
    have : ∃ x, xs[i]? = some x ∧ wpP C R (k x) σ Q := by
      unfold wpP at h
      split at h
      · exact Tag.ex_of _ h
      · exact optW_of h
    obtain ⟨x, h1, h2⟩ := this
    obtain ⟨b, c, d⟩ := wpP_run (k x) h2
    exact ⟨b, by simp only [Prog.run, h1]; exact c, by simp only [Prog.logs, h1]; exact d⟩
  | .br b x y, σ, Q, h => by
    cases b with
    | true =>
      obtain ⟨b, c, d⟩ := wpP_run x h
      exact ⟨b, c, d⟩
    | false =>
      obtain ⟨b, c, d⟩ := wpP_run y h
      exact ⟨b, c, d⟩
  | .call f args k, σ, Q, h => by
    have : ∃ r os, C f args = some (r, os) ∧ wpP C R (k r os) σ Q := by
      unfold wpP at h
      exact retW_of h
    obtain ⟨r, os, h1, h2⟩ := this
    obtain ⟨b, c, d⟩ := wpP_run (k r os) h2
    exact ⟨b, by simp only [Prog.run, h1]; exact c, by simp only [Prog.logs, h1]; exact d⟩

def opsW (E : Ev) (C : Caller) (R : Rets) (ops : Array Oper) : List Oper → St → (St → List Logs → Prop) → Prop
  | [], σ, Q => Q σ []
  | o :: r, σ, Q => wpP C R (guardP E ops o) σ fun σ' l => opsW E C R ops r σ' fun σ' ls => Q σ' (l :: ls)
theorem opsW_run {E : Ev} {C : Caller} {R : Rets} {ops : Array Oper} : ∀ (l : List Oper) {σ : St} {Q : St → List Logs → Prop}, opsW E C R ops l σ Q → ∃ σ' ls, runOps E C ops l σ = some σ' ∧ runDraw E C ops l σ = some (σ', ls) ∧ Q σ' ls
  | [], σ, Q, h => ⟨σ, [], rfl, rfl, h⟩
  | o :: r, σ, Q, h => by
    unfold opsW at h
    obtain ⟨σ1, h1, h2⟩ := wpP_run _ h
    obtain ⟨σ2, ls, h3, h4, h5⟩ := opsW_run r h2
    exact ⟨σ2, _, by unfold runOps; rw [h1]; exact h3, by unfold runDraw; rw [h1]; dsimp only; rw [h4], h5⟩
def regionW (E : Ev) (C : Caller) (R : Rets) (K : Keep) (id : Nat) (ops : Array Oper) (draw : Bool) (s : Sl) (Q : Sl → Prop) : Prop :=
  match draw with
  | true => opsW E C R ops ops.toList (unpackS s) fun σ ls => condW (edgesOk ops.toList 0 && pairsOk (predsL ops.toList []) ls) (optW (gather σ (K id)) Q) False
  | false => opsW E C R ops ops.toList (unpackS s) fun σ ls => optW (gather σ (K id)) Q
theorem regionW_run {E : Ev} {C : Caller} {R : Rets} {K : Keep} {id : Nat} {ops : Array Oper} {draw : Bool} {s : Sl} {Q : Sl → Prop} (h : regionW E C R K id ops draw s Q) : ∃ s', regionEv E C K id ops draw s = some s' ∧ Q s' := by
  unfold regionW at h
  split at h
  · obtain ⟨σ, ls, h1, h2, h3⟩ := opsW_run _ h
    cases hp : (edgesOk ops.toList 0 && pairsOk (predsL ops.toList []) ls) with
    | false => rw [hp] at h3; exact h3.elim
    | true =>
      rw [hp] at h3
      obtain ⟨s', h4, h5⟩ := optW_of h3
      exact ⟨s', by unfold regionEv; dsimp only; rw [h2]; dsimp only; rw [if_pos hp]; exact h4, h5⟩
  · obtain ⟨σ, ls, h1, h2, h3⟩ := opsW_run _ h
    obtain ⟨s', h4, h5⟩ := optW_of h3
    exact ⟨s', by unfold regionEv; dsimp only; rw [h1]; exact h4, h5⟩
def boolI (v : IV) (P : Bool → Prop) : Prop := match v with
  | .d (.bool b) => P b
  | _ => False
def isLoop : Code → Bool
  | .loop _ => true
  | _ => false
/-- Code; of loops it asks how they end. -/
def wpS (E : Ev) (C : Caller) (R : Rets) (K : Keep) (Jl : Code → Sl → Option Out) (Jg : Code → Code → Sl → Option Out) (L : Lps) : Code → Sl → (Out → Prop) → Prop
  | .skip, s, Q => Q (.norm s)
  | .region id ops draw, s, Q => regionW E C R K id ops draw s fun s' => Q (.norm s')
  | .seq a b, s, Q => wpS E C R K Jl Jg L a s fun o => match o with
    | .norm s' => wpS E C R K Jl Jg L b s' Q
    | o => Q o
  | .cond (.tmp t) x y, s, Q => boolI (lookS s t) fun b => condW b (wpS E C R K Jl Jg L x (leaveS K s t) Q) (wpS E C R K Jl Jg L y (leaveS K s t) Q)
  | .block id c, s, Q => match isLoop c with
    | true => lpW (L id) fun o => evS E C K Jl Jg (.block id c) s = some o ∧ Q o
    | false => wpS E C R K Jl Jg L c s fun o => match o with
      | .exit i s' => if i = id then Q (.norm s') else Q (.exit i s')
      | o => Q o
  | .exit id, s, Q => Q (.exit id s)
  | .label _, s, Q => Q (.norm s)
  | .goto l, s, Q => Q (.goto l s)
  | .ret, s, Q => Q (.ret s)
  | _, _, _ => False
theorem wpS_run {E : Ev} {C : Caller} {R : Rets} {K : Keep} {Jl : Code → Sl → Option Out} {Jg : Code → Code → Sl → Option Out} {L : Lps} : ∀ (c : Code) {s : Sl} {Q : Out → Prop}, wpS E C R K Jl Jg L c s Q → ∃ out, evS E C K Jl Jg c s = some out ∧ Q out
  | .skip, s, Q, h => ⟨_, rfl, h⟩
  | .region id ops draw, s, Q, h => by
    obtain ⟨s', h1, h2⟩ := regionW_run h
    exact ⟨_, by unfold evS; rw [h1], h2⟩
  | .seq a b, s, Q, h => by
    obtain ⟨o1, h1, h2⟩ := wpS_run a h
    cases o1 with
    | norm s' =>
      obtain ⟨o2, h3, h4⟩ := wpS_run b h2
      exact ⟨o2, by unfold evS; rw [h1]; exact h3, h4⟩
    | exit i s' => exact ⟨_, by unfold evS; rw [h1], h2⟩
    | goto i s' => exact ⟨_, by unfold evS; rw [h1], h2⟩
    | ret s' => exact ⟨_, by unfold evS; rw [h1], h2⟩
  | .cond t x y, s, Q, h => by
    cases t with
    | tmp t =>
      unfold wpS at h
      unfold boolI at h
      split at h
      · rename_i b hb
        cases b with
        | true =>
          obtain ⟨o1, h1, h2⟩ := wpS_run x h
          exact ⟨o1, by unfold evS; rw [hb]; exact h1, h2⟩
        | false =>
          obtain ⟨o1, h1, h2⟩ := wpS_run y h
          exact ⟨o1, by unfold evS; rw [hb]; exact h1, h2⟩
      · exact h.elim
    | _ => simp [wpS] at h
  | .block id c, s, Q, h => by
    unfold wpS at h
    split at h
    · exact lpW_of h
    obtain ⟨o1, h1, h2⟩ := wpS_run c h
    cases o1 with
    | exit i s' =>
      dsimp only at h2
      by_cases hi : i = id
      · rw [if_pos hi] at h2
        exact ⟨_, by unfold evS; rw [h1]; dsimp only; rw [if_pos hi], h2⟩
      · rw [if_neg hi] at h2
        exact ⟨_, by unfold evS; rw [h1]; dsimp only; rw [if_neg hi], h2⟩
    | norm s' => exact ⟨_, by unfold evS; rw [h1], h2⟩
    | goto i s' => exact ⟨_, by unfold evS; rw [h1], h2⟩
    | ret s' => exact ⟨_, by unfold evS; rw [h1], h2⟩
  | .exit id, s, Q, h => ⟨_, rfl, h⟩
  | .label _, s, Q, h => ⟨_, rfl, h⟩
  | .goto l, s, Q, h => ⟨_, rfl, h⟩
  | .ret, s, Q, h => ⟨_, rfl, h⟩
  | .loop _, _, _, h => by simp [wpS] at h
  | .rangeFunc _ _ _ _, _, _, h => by simp [wpS] at h
  | .scope _, _, _, h => by simp [wpS] at h
  | .refuse _, _, _, h => by simp [wpS] at h
/-- What a way through a piece of code tells. -/
theorem wpS_way {E : Ev} {C : Caller} {R : Rets} {K : Keep} {Jl : Code → Sl → Option Out} {Jg : Code → Code → Sl → Option Out} {L : Lps} {c : Code} {s : Sl} {o : Out} {W : Prop} (ht : wpS E C R K Jl Jg L c s (fun x => x = o) = W) (h : W) : evS E C K Jl Jg c s = some o := by
  obtain ⟨out, h1, rfl⟩ := wpS_run c (ht ▸ h)
  exact h1
/-- A function, from its call to what it hands back. -/
def fnW (F : Fx) (C : Caller) (R : Rets) (L : Lps) (n : Nat) (fn : FnD) (args : List IV) (Q : Option (IV × List IV) → Prop) : Prop :=
  condW (decide (args.length ≤ fn.ntmps) && args.all okArg) (wpS ⟨F.T, F.G, fn.ntmps, lkFrom 0 args⟩ C R fn.keep (evJ ⟨F.T, F.G, fn.ntmps, lkFrom 0 args⟩ C fn.keep n).1 (evJ ⟨F.T, F.G, fn.ntmps, lkFrom 0 args⟩ C fn.keep n).2 L fn.body ((List.range args.length).zip args) fun o => match o with
    | .norm s => optW (finF F C fn args s) fun r => Q (some r)
    | .ret s => optW (finF F C fn args s) fun r => Q (some r)
    | _ => False) False
theorem fnW_way {F : Fx} {C : Caller} {R : Rets} {L : Lps} {n : Nat} {fn : FnD} {args : List IV} {o : Option (IV × List IV)} {W : Prop} (ht : fnW F C R L n fn args (fun x => x = o) = W) (h : W) : evFn F C n fn args = o := by
  have h1 := ht ▸ h
  unfold fnW at h1
  cases hc : (decide (args.length ≤ fn.ntmps) && args.all okArg) with
  | false => rw [hc] at h1; exact h1.elim
  | true =>
    rw [hc] at h1
    obtain ⟨out, h2, h3⟩ := wpS_run fn.body h1
    simp only [Bool.and_eq_true, decide_eq_true_eq] at hc
    unfold evFn
    rw [if_pos hc, h2]
    cases out with
    | norm s =>
      obtain ⟨y, h4, h5⟩ := optW_of h3
      exact h4.trans h5
    | ret s =>
      obtain ⟨y, h4, h5⟩ := optW_of h3
      exact h4.trans h5
    | exit i s => exact h3.elim
    | goto i s => exact h3.elim
def blkO (id : Nat) : Out → Out
  | .exit i s => if i = id then .norm s else .exit i s
  | o => o
/-- A loop, from how its turns go. -/
theorem loop_at {E : Ev} {C : Caller} {K : Keep} {n : Nat} {c0 c : Code} {id : Nat} {s : Sl} {o o' : Out} (hc : c0 = .block id (.loop c)) (h : (evJ E C K (n + 1)).1 c s = some o) (ho : blkO id o = o') : evS E C K (evJ E C K n).1 (evJ E C K n).2 c0 s = some o' := by
  subst hc
  have h1 : evS E C K (evJ E C K n).1 (evJ E C K n).2 (.loop c) s = some o := by unfold evS; exact h
  unfold evS
  rw [h1, ← ho]
  cases o with
  | exit i s =>
    dsimp only [blkO]
    by_cases hi : i = id
    · rw [if_pos hi, if_pos hi]
    · rw [if_neg hi, if_neg hi]
  | _ => rfl
theorem loop_go {E : Ev} {C : Caller} {K : Keep} {n : Nat} {c : Code} {s s' : Sl} {o : Out} (h : evS E C K (evJ E C K n).1 (evJ E C K n).2 c s = some (.norm s')) (h2 : (evJ E C K n).1 c s' = some o) : (evJ E C K (n + 1)).1 c s = some o := by
  simp only [evJ]
  rw [h]
  exact h2
def Out.isNorm : Out → Bool
  | .norm _ => true
  | _ => false
theorem loop_end {E : Ev} {C : Caller} {K : Keep} {n : Nat} {c : Code} {s : Sl} {o : Out} (h : evS E C K (evJ E C K n).1 (evJ E C K n).2 c s = some o) (ho : o.isNorm = false) : (evJ E C K (n + 1)).1 c s = some o := by
  simp only [evJ]
  rw [h]
  cases o <;> first | rfl | cases ho
/-- A place in a code. -/
def Code.piece : List Nat → Code → Code
  | [], c => c
  | i :: r, c => match c, i with
    | .seq a _, 0 => piece r a
    | .seq _ b, _ => piece r b
    | .cond _ x _, 0 => piece r x
    | .cond _ _ y, _ => piece r y
    | .block _ c, _ => piece r c
    | .loop c, _ => piece r c
    | .scope c, _ => piece r c
    | c, _ => c
/-- A piece of a function's code, and what it asks. -/
@[reducible] def evP (F : Fx) (C : Caller) (n : Nat) (d : FnD) (lk p : List Nat) (s : Sl) : Option Out :=
  evS ⟨F.T, F.G, d.ntmps, lk⟩ C d.keep (evJ ⟨F.T, F.G, d.ntmps, lk⟩ C d.keep n).1 (evJ ⟨F.T, F.G, d.ntmps, lk⟩ C d.keep n).2 (Code.piece p d.body) s
@[reducible] def wpQ (F : Fx) (C : Caller) (R : Rets) (L : Lps) (n : Nat) (d : FnD) (lk p : List Nat) (s : Sl) (Q : Out → Prop) : Prop :=
  wpS ⟨F.T, F.G, d.ntmps, lk⟩ C R d.keep (evJ ⟨F.T, F.G, d.ntmps, lk⟩ C d.keep n).1 (evJ ⟨F.T, F.G, d.ntmps, lk⟩ C d.keep n).2 L (Code.piece p d.body) s Q
theorem wpQ_way {F : Fx} {C : Caller} {R : Rets} {L : Lps} {n : Nat} {d : FnD} {lk p : List Nat} {s : Sl} {o : Out} {W : Prop} (ht : wpQ F C R L n d lk p s (fun x => x = o) = W) (h : W) : evP F C n d lk p s = some o := wpS_way ht h
/-- The turns of a loop. -/
@[reducible] def evL (F : Fx) (C : Caller) (n : Nat) (d : FnD) (lk p : List Nat) (s : Sl) : Option Out := (evJ ⟨F.T, F.G, d.ntmps, lk⟩ C d.keep n).1 (Code.piece p d.body) s
theorem evL_go {F : Fx} {C : Caller} {n : Nat} {d : FnD} {lk p : List Nat} {s s' : Sl} {o : Option Out} (h : evP F C n d lk p s = some (.norm s')) (h2 : evL F C n d lk p s' = o) : evL F C (n + 1) d lk p s = o := by
  simp only [evL, evJ]
  unfold evP at h
  rw [h]
  exact h2
theorem evL_end {F : Fx} {C : Caller} {n : Nat} {d : FnD} {lk p : List Nat} {s : Sl} {o : Out} (h : evP F C n d lk p s = some o) (ho : o.isNorm = false) : evL F C (n + 1) d lk p s = some o := loop_end h ho
theorem evL_at {F : Fx} {C : Caller} {n : Nat} {d : FnD} {lk p p' : List Nat} {id : Nat} {s : Sl} {o o' : Out} (hc : Code.piece p d.body = .block id (.loop (Code.piece p' d.body))) (h : evL F C (n + 1) d lk p' s = some o) (ho : blkO id o = o') : evP F C n d lk p s = some o' := loop_at hc h ho
end Go.Ab
