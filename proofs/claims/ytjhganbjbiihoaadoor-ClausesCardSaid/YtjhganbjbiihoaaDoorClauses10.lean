/- Written by a program of this session (wip/tools/abgen.py), out of the translation. Not trusted: Lean checks it. -/
import Derived.KernelRfl
import Derived.Test.YtjhganbjbiihoaaDoorProg
import Derived.Test.YtjhganbjbiihoaaDoorClauses0
import Derived.Test.YtjhganbjbiihoaaDoorClauses1
import Derived.Test.YtjhganbjbiihoaaDoorClauses2
import Derived.Test.YtjhganbjbiihoaaDoorClauses3
import Derived.Test.YtjhganbjbiihoaaDoorClauses4
import Derived.Test.YtjhganbjbiihoaaDoorClauses5
import Derived.Test.YtjhganbjbiihoaaDoorClauses6
import Derived.Test.YtjhganbjbiihoaaDoorClauses7
import Derived.Test.YtjhganbjbiihoaaDoorClauses8
import Derived.Test.YtjhganbjbiihoaaDoorClauses9
set_option maxRecDepth 100000
set_option linter.unusedVariables false
namespace Go.Proofs.YtjhganbjbiihoaaDoor.Ab
open Go Go.Ab Go.Proofs
def T : Tab := [
  (3, { desc := TypeDesc.int IntKind.i64, size := 1, bytes := 8, zero := D.int IntKind.i64 0 }),
  (4, { desc := TypeDesc.bool, size := 1, bytes := 1, zero := D.bool false }),
  (5, { desc := TypeDesc.int IntKind.u8, size := 1, bytes := 1, zero := D.int IntKind.u8 0 }),
  (9, { desc := TypeDesc.string, size := 1, bytes := 16, zero := D.str { data := { toList := [] } } }),
  (22, { desc := TypeDesc.slice 88, size := 1, bytes := 24, zero := D.sl 4 true [] [] }),
  (23, { desc := TypeDesc.slice 57, size := 1, bytes := 24, zero := D.sl 2 true [] [] }),
  (24, { desc := TypeDesc.slice 33, size := 1, bytes := 24, zero := D.sl 1 true [] [] }),
  (26, { desc := TypeDesc.struct { toList := [{ name := "Lits", type := 23, offset := 0, embedded := false, tag := "", pkgPath := "", byteOffset := 0 }, { name := "Tuples", type := 24, offset := 1, embedded := false, tag := "", pkgPath := "", byteOffset := 24 }, { name := "Conds", type := 23, offset := 2, embedded := false, tag := "", pkgPath := "", byteOffset := 48 }] }, size := 3, bytes := 72, zero := D.agg [D.sl 2 true [] [], D.sl 1 true [] [], D.sl 2 true [] []], eqs := true }),
  (28, { desc := TypeDesc.int IntKind.i64, size := 1, bytes := 8, zero := D.int IntKind.i64 0 }),
  (33, { desc := TypeDesc.slice 3, size := 1, bytes := 24, zero := D.sl 1 true [] [] }),
  (46, { desc := TypeDesc.func { toList := [33, 33] } { toList := [4] } false, size := 1, bytes := 8, zero := D.nilf }),
  (55, { desc := TypeDesc.int IntKind.u64, size := 1, bytes := 8, zero := D.int IntKind.u64 0 }),
  (57, { desc := TypeDesc.struct { toList := [{ name := "Neg", type := 4, offset := 0, embedded := false, tag := "", pkgPath := "", byteOffset := 0 }, { name := "Atom", type := 33, offset := 1, embedded := false, tag := "", pkgPath := "", byteOffset := 8 }] }, size := 2, bytes := 32, zero := D.agg [D.bool false, D.sl 1 true [] []], eqs := true }),
  (59, { desc := TypeDesc.func { toList := [33] } { toList := [4] } false, size := 1, bytes := 8, zero := D.nilf }),
  (61, { desc := TypeDesc.struct { toList := [{ name := "Size", type := 3, offset := 0, embedded := false, tag := "", pkgPath := "", byteOffset := 0 }, { name := "Nums", type := 33, offset := 1, embedded := false, tag := "", pkgPath := "", byteOffset := 8 }] }, size := 2, bytes := 32, zero := D.agg [D.int IntKind.i64 0, D.sl 1 true [] []], eqs := true }),
  (75, { desc := TypeDesc.func { toList := [57] } { toList := [4] } false, size := 1, bytes := 8, zero := D.nilf }),
  (88, { desc := TypeDesc.struct { toList := [{ name := "Name", type := 9, offset := 0, embedded := false, tag := "", pkgPath := "", byteOffset := 0 }, { name := "Kind", type := 3, offset := 1, embedded := false, tag := "", pkgPath := "", byteOffset := 16 }, { name := "Arity", type := 3, offset := 2, embedded := false, tag := "", pkgPath := "", byteOffset := 24 }, { name := "Weight", type := 3, offset := 3, embedded := false, tag := "", pkgPath := "", byteOffset := 32 }] }, size := 4, bytes := 40, zero := D.agg [D.str { data := { toList := [] } }, D.int IntKind.i64 0, D.int IntKind.i64 0, D.int IntKind.i64 0], eqs := true }),
  (89, { desc := TypeDesc.func { toList := [33] } { toList := [33] } false, size := 1, bytes := 8, zero := D.nilf }),
  (90, { desc := TypeDesc.slice 23, size := 1, bytes := 24, zero := D.sl 1 true [] [] }),
  (98, { desc := TypeDesc.func { toList := [57, 57] } { toList := [4] } false, size := 1, bytes := 8, zero := D.nilf }),
  (101, { desc := TypeDesc.array 24 3, size := 24, bytes := 192, zero := D.agg [D.int IntKind.i64 0, D.int IntKind.i64 0, D.int IntKind.i64 0, D.int IntKind.i64 0, D.int IntKind.i64 0, D.int IntKind.i64 0, D.int IntKind.i64 0, D.int IntKind.i64 0, D.int IntKind.i64 0, D.int IntKind.i64 0, D.int IntKind.i64 0, D.int IntKind.i64 0, D.int IntKind.i64 0, D.int IntKind.i64 0, D.int IntKind.i64 0, D.int IntKind.i64 0, D.int IntKind.i64 0, D.int IntKind.i64 0, D.int IntKind.i64 0, D.int IntKind.i64 0, D.int IntKind.i64 0, D.int IntKind.i64 0, D.int IntKind.i64 0, D.int IntKind.i64 0] }),
  (103, { desc := TypeDesc.slice 106, size := 1, bytes := 24, zero := D.sl 2 true [] [] }),
  (106, { desc := TypeDesc.struct { toList := [{ name := "Var", type := 3, offset := 0, embedded := false, tag := "", pkgPath := "", byteOffset := 0 }, { name := "Term", type := 33, offset := 1, embedded := false, tag := "", pkgPath := "", byteOffset := 8 }] }, size := 2, bytes := 32, zero := D.agg [D.int IntKind.i64 0, D.sl 1 true [] []], eqs := true })]
theorem tab_ok : TabOk Tryd.prog T := TabOk.of (l := [3, 4, 5, 9, 22, 23, 24, 26, 28, 33, 46, 55, 57, 59, 61, 75, 88, 89, 90, 98, 101, 103, 106]) (by kernel_rfl)
end Go.Proofs.YtjhganbjbiihoaaDoor.Ab

/- The evaluator, told as conditions: what must hold that a piece of code comes to an end, and how it stands there. No condition. -/
set_option linter.unusedVariables false
set_option linter.unusedSimpArgs false
namespace Go.Ab
open Go

def condW (b : Bool) (x y : Prop) : Prop := match b with
  | true => x
  | false => y
theorem condW_t {b : Bool} {x y : Prop} (h : b = true) (hx : x) : condW b x y := by subst h; exact hx
theorem condW_f {b : Bool} {x y : Prop} (h : b = false) (hy : y) : condW b x y := by subst h; exact hy

mutual
def Tag.ex : Tag → (D → Prop) → Prop
  | .any, P => ∃ x, P x
  | .int k, P => ∃ n, P (.int k n)
  | .bool, P => ∃ b, P (.bool b)
  | .str, P => ∃ s, P (.str s)
  | .flt k, P => ∃ b, P (.flt k b)
  | .cpx k, P => ∃ a b, P (.cpx k a b)
  | .sl sz, P => ∃ nl xs ext, P (.sl sz nl xs ext)
  | .agg ts, P => Tag.exL ts fun xs => P (.agg xs)
  | .nil sz, P => P (.sl sz true [] [])
  | .fn f, P => P (.fn f)
  | .aggv, P => ∃ xs, P (.agg xs)
  | .boolc b, P => P (.bool b)
  | .ifc, P => ∃ b, P (.ifc b)
def Tag.exL : List Tag → (List D → Prop) → Prop
  | [], P => P []
  | t :: ts, P => Tag.ex t fun x => Tag.exL ts fun xs => P (x :: xs)
end
inductive ITag where
  | any
  | d (t : Tag)
  | own (e : TypeId) (sz : Nat)
  | dbox (ty : TypeId) (off : Nat) (ts : List Tag)
  | dboxv (ty : TypeId) (off : Nat)
  | tup (ts : List ITag)
  | fn (f : FuncId) (ts : List ITag)
  | ptr (ty : TypeId) (off : Nat) (ts : List ITag)
  | agg (ts : List ITag)
  | dptr (ts : List Tag)
  | dead
mutual
def ITag.ex : ITag → (IV → Prop) → Prop
  | .any, P => ∃ x, P x
  | .d t, P => Tag.ex t fun x => P (.d x)
  | .own e sz, P => ∃ nl xs, P (.own nl e sz xs)
  | .dbox ty off ts, P => Tag.exL ts fun xs => P (.dbox ty off xs)
  | .dboxv ty off, P => ∃ xs, P (.dbox ty off xs)
  | .tup ts, P => ITag.exL ts fun xs => P (.tup xs)
  | .fn f ts, P => ITag.exL ts fun xs => P (.fn f xs)
  | .ptr ty off ts, P => ITag.exL ts fun xs => P (.ptr ty off xs)
  | .agg ts, P => ITag.exL ts fun xs => P (.agg xs)
  | .dptr ts, P => Tag.exL ts fun xs => P (.dptr xs)
  | .dead, P => P .dead
def ITag.exL : List ITag → (List IV → Prop) → Prop
  | [], P => P []
  | t :: ts, P => ITag.ex t fun x => ITag.exL ts fun xs => P (x :: xs)
end
mutual
theorem Tag.ex_of : ∀ (t : Tag) {P : D → Prop}, Tag.ex t P → ∃ x, P x
  | .any, P, h => h
  | .int k, P, ⟨n, h⟩ => ⟨_, h⟩
  | .bool, P, ⟨n, h⟩ => ⟨_, h⟩
  | .str, P, ⟨n, h⟩ => ⟨_, h⟩
  | .flt k, P, ⟨n, h⟩ => ⟨_, h⟩
  | .cpx k, P, ⟨n, m, h⟩ => ⟨_, h⟩
  | .sl sz, P, ⟨n, m, e, h⟩ => ⟨_, h⟩
  | .agg ts, P, h => by
    unfold Tag.ex at h
    obtain ⟨xs, h⟩ := Tag.exL_of ts h
    exact ⟨_, h⟩
  | .nil sz, P, h => ⟨_, h⟩
  | .fn f, P, h => ⟨_, h⟩
  | .aggv, P, ⟨xs, h⟩ => ⟨_, h⟩
  | .boolc b, P, h => ⟨_, h⟩
  | .ifc, P, ⟨b, h⟩ => ⟨_, h⟩
theorem Tag.exL_of : ∀ (ts : List Tag) {P : List D → Prop}, Tag.exL ts P → ∃ xs, P xs
  | [], P, h => ⟨[], h⟩
  | t :: ts, P, h => by
    unfold Tag.exL at h
    obtain ⟨x, h⟩ := Tag.ex_of t h
    obtain ⟨xs, h⟩ := Tag.exL_of ts h
    exact ⟨_, h⟩
end
mutual
theorem ITag.ex_of : ∀ (t : ITag) {P : IV → Prop}, ITag.ex t P → ∃ x, P x
  | .any, P, h => h
  | .d t, P, h => by unfold ITag.ex at h; obtain ⟨x, h⟩ := Tag.ex_of t h; exact ⟨_, h⟩
  | .own e sz, P, ⟨n, m, h⟩ => ⟨_, h⟩
  | .dbox ty off ts, P, h => by unfold ITag.ex at h; obtain ⟨x, h⟩ := Tag.exL_of ts h; exact ⟨_, h⟩
  | .dboxv ty off, P, h => by unfold ITag.ex at h; obtain ⟨x, h⟩ := h; exact ⟨_, h⟩
  | .tup ts, P, h => by unfold ITag.ex at h; obtain ⟨x, h⟩ := ITag.exL_of ts h; exact ⟨_, h⟩
  | .fn f ts, P, h => by unfold ITag.ex at h; obtain ⟨x, h⟩ := ITag.exL_of ts h; exact ⟨_, h⟩
  | .ptr ty off ts, P, h => by unfold ITag.ex at h; obtain ⟨x, h⟩ := ITag.exL_of ts h; exact ⟨_, h⟩
  | .agg ts, P, h => by unfold ITag.ex at h; obtain ⟨x, h⟩ := ITag.exL_of ts h; exact ⟨_, h⟩
  | .dptr ts, P, h => by unfold ITag.ex at h; obtain ⟨x, h⟩ := Tag.exL_of ts h; exact ⟨_, h⟩
  | .dead, P, h => ⟨_, h⟩
theorem ITag.exL_of : ∀ (ts : List ITag) {P : List IV → Prop}, ITag.exL ts P → ∃ xs, P xs
  | [], P, h => ⟨[], h⟩
  | t :: ts, P, h => by
    unfold ITag.exL at h
    obtain ⟨x, h⟩ := ITag.ex_of t h
    obtain ⟨xs, h⟩ := ITag.exL_of ts h
    exact ⟨_, h⟩
end
/-- What the functions that are called hand back, and what becomes of what was lent to them. -/
abbrev Rets := FuncId → List (ITag × List ITag)
def retW : List (ITag × List ITag) → (IV → List IV → Prop) → Prop
  | [], _ => False
  | [(r, os)], P => ITag.ex r fun r => ITag.exL os fun os => P r os
  | (r, os) :: l, P => (ITag.ex r fun r => ITag.exL os fun os => P r os) ∨ retW l P
theorem retW_of : ∀ {l : List (ITag × List ITag)} {P : IV → List IV → Prop}, retW l P → ∃ r os, P r os
  | [], P, h => h.elim
  | [(r, os)], P, h => by
    obtain ⟨x, h1⟩ := ITag.ex_of _ h
    obtain ⟨os, h1⟩ := ITag.exL_of _ h1
    exact ⟨x, os, h1⟩
  | (r, os) :: y :: l, P, h => by
    rcases h with h | h
    · obtain ⟨x, h1⟩ := ITag.ex_of _ h
      obtain ⟨os, h1⟩ := ITag.exL_of _ h1
      exact ⟨x, os, h1⟩
    · exact retW_of (l := y :: l) h
/-- How a loop ends. -/
inductive OTag where
  | norm (l : List (Nat × ITag))
  | exit (id : Nat) (l : List (Nat × ITag))
  | ret (l : List (Nat × ITag))
def slEx : List (Nat × ITag) → (Sl → Prop) → Prop
  | [], P => P []
  | (i, t) :: r, P => ITag.ex t fun x => slEx r fun s => P ((i, x) :: s)
theorem slEx_of : ∀ (l : List (Nat × ITag)) {P : Sl → Prop}, slEx l P → ∃ s, P s
  | [], P, h => ⟨[], h⟩
  | (i, t) :: r, P, h => by
    unfold slEx at h
    obtain ⟨x, h⟩ := ITag.ex_of t h
    obtain ⟨xs, h⟩ := slEx_of r h
    exact ⟨_, h⟩
def OTag.ex : OTag → (Out → Prop) → Prop
  | .norm l, P => slEx l fun s => P (.norm s)
  | .exit id l, P => slEx l fun s => P (.exit id s)
  | .ret l, P => slEx l fun s => P (.ret s)
theorem OTag.ex_of : ∀ (t : OTag) {P : Out → Prop}, OTag.ex t P → ∃ s, P s
  | .norm l, P, h => let ⟨s, h⟩ := slEx_of l h; ⟨_, h⟩
  | .exit id l, P, h => let ⟨s, h⟩ := slEx_of l h; ⟨_, h⟩
  | .ret l, P, h => let ⟨s, h⟩ := slEx_of l h; ⟨_, h⟩
abbrev Lps := Nat → List OTag
def lpW : List OTag → (Out → Prop) → Prop
  | [], _ => False
  | [o], P => o.ex P
  | o :: l, P => o.ex P ∨ lpW l P
theorem lpW_of : ∀ {l : List OTag} {P : Out → Prop}, lpW l P → ∃ o, P o
  | [], P, h => h.elim
  | [o], P, h => OTag.ex_of o h
  | o :: p :: l, P, h => by
    rcases h with h | h
    · exact OTag.ex_of o h
    · exact lpW_of (l := p :: l) h
abbrev Logs := List Loc × List Loc
def boolV (v : Val) (P : Val → Prop) : Prop := match v with
  | .d (.bool b) => condW b (P (.d (.bool true))) (P (.d (.bool false)))
  | v => P v
theorem boolV_of {v : Val} {P : Val → Prop} (h : boolV v P) : P v := by
  unfold boolV at h
  split at h
  · rename_i b
    cases b <;> exact h
  · exact h
def optW {α : Type} (x : Option α) (P : α → Prop) : Prop := match x with
  | some x => P x
  | none => False
theorem optW_of {α : Type} {x : Option α} {P : α → Prop} (h : optW x P) : ∃ y, x = some y ∧ P y := by
  cases x with
  | none => exact h.elim
  | some y => exact ⟨y, rfl, h⟩
def wpP (C : Caller) (R : Rets) : Prog → St → (St → Logs → Prop) → Prop
  | .ret, σ, Q => Q σ ([], [])
  | .fail, _, _ => False
  | .getS i k, σ, Q => wpP C R (k (σ.getS i)) σ fun σ' l => Q σ' (.s i :: l.1, l.2)
  | .putS i v k, σ, Q => boolV v fun v => wpP C R k (σ.putS i v) fun σ' l => Q σ' (l.1, .s i :: l.2)
  | .getT t k, σ, Q => wpP C R (k (σ.getT t)) σ fun σ' l => Q σ' (.t t :: l.1, l.2)
  | .putT t e k, σ, Q => wpP C R k (σ.putT t e) fun σ' l => Q σ' (l.1, .t t :: l.2)
  | .need p k, σ, Q => condW p (wpP C R k σ Q) False
  | .elem t xs i k, σ, Q => match t with
    | some t => Tag.ex t fun x => xs[i]? = some x ∧ wpP C R (k x) σ Q
    | none => optW xs[i]? fun x => wpP C R (k x) σ Q
  | .br b x y, σ, Q => condW b (wpP C R x σ Q) (wpP C R y σ Q)
  | .call f args k, σ, Q => retW (R f) fun r os => C f args = some (r, os) ∧ wpP C R (k r os) σ Q
theorem wpP_run {C : Caller} {R : Rets} : ∀ (p : Prog) {σ : St} {Q : St → Logs → Prop}, wpP C R p σ Q → ∃ σ', p.run C σ = some σ' ∧ Q σ' (p.logs C σ)
  | .ret, σ, Q, h => ⟨σ, rfl, h⟩
  | .fail, _, _, h => h.elim
  | .getS i k, σ, Q, h => wpP_run (k (σ.getS i)) h
  | .putS i v k, σ, Q, h => by
    have h1 := boolV_of (P := fun v => wpP C R k (σ.putS i v) fun σ' l => Q σ' (l.1, .s i :: l.2)) h
    exact wpP_run k h1
  | .getT t k, σ, Q, h => wpP_run (k (σ.getT t)) h
  | .putT t e k, σ, Q, h => wpP_run k h
  | .need p k, σ, Q, h => by
    cases p with
    | true =>
      obtain ⟨b, c, d⟩ := wpP_run k h
      exact ⟨b, c, d⟩
    | false => exact h.elim
  | .elem t xs i k, σ, Q, h => by
    have : ∃ x, xs[i]? = some x ∧ wpP C R (k x) σ Q := by
      unfold wpP at h
      split at h
      · exact Tag.ex_of _ h
      · exact optW_of h
    obtain ⟨x, h1, h2⟩ := this
    obtain ⟨b, c, d⟩ := wpP_run (k x) h2
    exact ⟨b, by simp only [Prog.run, h1]; exact c, by simp only [Prog.logs, h1]; exact d⟩
  | .br b x y, σ, Q, h => by
    cases b with
    | true =>
      obtain ⟨b, c, d⟩ := wpP_run x h
      exact ⟨b, c, d⟩
    | false =>
      obtain ⟨b, c, d⟩ := wpP_run y h
      exact ⟨b, c, d⟩
  | .call f args k, σ, Q, h => by
    have : ∃ r os, C f args = some (r, os) ∧ wpP C R (k r os) σ Q := by
      unfold wpP at h
      exact retW_of h
    obtain ⟨r, os, h1, h2⟩ := this
    obtain ⟨b, c, d⟩ := wpP_run (k r os) h2
    exact ⟨b, by simp only [Prog.run, h1]; exact c, by simp only [Prog.logs, h1]; exact d⟩

def opsW (E : Ev) (C : Caller) (R : Rets) (ops : Array Oper) : List Oper → St → (St → List Logs → Prop) → Prop
  | [], σ, Q => Q σ []
  | o :: r, σ, Q => wpP C R (guardP E ops o) σ fun σ' l => opsW E C R ops r σ' fun σ' ls => Q σ' (l :: ls)
theorem opsW_run {E : Ev} {C : Caller} {R : Rets} {ops : Array Oper} : ∀ (l : List Oper) {σ : St} {Q : St → List Logs → Prop}, opsW E C R ops l σ Q → ∃ σ' ls, runOps E C ops l σ = some σ' ∧ runDraw E C ops l σ = some (σ', ls) ∧ Q σ' ls
  | [], σ, Q, h => ⟨σ, [], rfl, rfl, h⟩
  | o :: r, σ, Q, h => by
    unfold opsW at h
    obtain ⟨σ1, h1, h2⟩ := wpP_run _ h
    obtain ⟨σ2, ls, h3, h4, h5⟩ := opsW_run r h2
    exact ⟨σ2, _, by unfold runOps; rw [h1]; exact h3, by unfold runDraw; rw [h1]; dsimp only; rw [h4], h5⟩
def regionW (E : Ev) (C : Caller) (R : Rets) (K : Keep) (id : Nat) (ops : Array Oper) (draw : Bool) (s : Sl) (Q : Sl → Prop) : Prop :=
  match draw with
  | true => opsW E C R ops ops.toList (unpackA E.N s) fun σ ls => condW (edgesOk ops.toList 0 && pairsOk (predsL ops.toList []) ls) (optW (gatherA E.N (cvAt E.cv id) σ (K id)) Q) False
  | false => opsW E C R ops ops.toList (unpackA E.N s) fun σ ls => optW (gatherA E.N (cvAt E.cv id) σ (K id)) Q
theorem regionW_run {E : Ev} {C : Caller} {R : Rets} {K : Keep} {id : Nat} {ops : Array Oper} {draw : Bool} {s : Sl} {Q : Sl → Prop} (h : regionW E C R K id ops draw s Q) : ∃ s', regionEv E C K id ops draw s = some s' ∧ Q s' := by
  unfold regionW at h
  split at h
  · obtain ⟨σ, ls, h1, h2, h3⟩ := opsW_run _ h
    cases hp : (edgesOk ops.toList 0 && pairsOk (predsL ops.toList []) ls) with
    | false => rw [hp] at h3; exact h3.elim
    | true =>
      rw [hp] at h3
      obtain ⟨s', h4, h5⟩ := optW_of h3
      exact ⟨s', by unfold regionEv; dsimp only; rw [h2]; dsimp only; rw [if_pos hp]; exact h4, h5⟩
  · obtain ⟨σ, ls, h1, h2, h3⟩ := opsW_run _ h
    obtain ⟨s', h4, h5⟩ := optW_of h3
    exact ⟨s', by unfold regionEv; dsimp only; rw [h1]; exact h4, h5⟩
def boolI (v : IV) (P : Bool → Prop) : Prop := match v with
  | .d (.bool b) => P b
  | _ => False
def isLoop : Code → Bool
  | .loop _ => true
  | _ => false
/-- Code; of loops it asks how they end. -/
def wpS (E : Ev) (C : Caller) (R : Rets) (K : Keep) (Jl : Code → Sl → Option Out) (Jg : Code → Code → Sl → Option Out) (L : Lps) : Code → Sl → (Out → Prop) → Prop
  | .skip, s, Q => Q (.norm s)
  | .region id ops draw, s, Q => regionW E C R K id ops draw s fun s' => Q (.norm s')
  | .seq a b, s, Q => wpS E C R K Jl Jg L a s fun o => match o with
    | .norm s' => wpS E C R K Jl Jg L b s' Q
    | o => Q o
  | .cond (.tmp t) x y, s, Q => boolI (lookS s t) fun b => condW b (wpS E C R K Jl Jg L x (leaveS K s t) Q) (wpS E C R K Jl Jg L y (leaveS K s t) Q)
  | .block id c, s, Q => match isLoop c with
    | true => lpW (L id) fun o => evS E C K Jl Jg (.block id c) s = some o ∧ Q o
    | false => wpS E C R K Jl Jg L c s fun o => match o with
      | .exit i s' => if i = id then Q (.norm s') else Q (.exit i s')
      | o => Q o
  | .scope c, s, Q => wpS E C R K Jl Jg L c s fun o => match o with
    | .goto l s' => match findLabel c l with
      | some rest => lpW (L (1000000 + l)) fun o => Jg c rest s' = some o ∧ Q o
      | none => Q (.goto l s')
    | o => Q o
  | .exit id, s, Q => Q (.exit id s)
  | .label _, s, Q => Q (.norm s)
  | .goto l, s, Q => Q (.goto l s)
  | .ret, s, Q => Q (.ret s)
  | _, _, _ => False
theorem wpS_run {E : Ev} {C : Caller} {R : Rets} {K : Keep} {Jl : Code → Sl → Option Out} {Jg : Code → Code → Sl → Option Out} {L : Lps} : ∀ (c : Code) {s : Sl} {Q : Out → Prop}, wpS E C R K Jl Jg L c s Q → ∃ out, evS E C K Jl Jg c s = some out ∧ Q out
  | .skip, s, Q, h => ⟨_, rfl, h⟩
  | .region id ops draw, s, Q, h => by
    obtain ⟨s', h1, h2⟩ := regionW_run h
    exact ⟨_, by unfold evS; rw [h1], h2⟩
  | .seq a b, s, Q, h => by
    obtain ⟨o1, h1, h2⟩ := wpS_run a h
    cases o1 with
    | norm s' =>
      obtain ⟨o2, h3, h4⟩ := wpS_run b h2
      exact ⟨o2, by unfold evS; rw [h1]; exact h3, h4⟩
    | exit i s' => exact ⟨_, by unfold evS; rw [h1], h2⟩
    | goto i s' => exact ⟨_, by unfold evS; rw [h1], h2⟩
    | ret s' => exact ⟨_, by unfold evS; rw [h1], h2⟩
  | .cond t x y, s, Q, h => by
    cases t with
    | tmp t =>
      unfold wpS at h
      unfold boolI at h
      split at h
      · rename_i b hb
        cases b with
        | true =>
          obtain ⟨o1, h1, h2⟩ := wpS_run x h
          exact ⟨o1, by unfold evS; rw [hb]; exact h1, h2⟩
        | false =>
          obtain ⟨o1, h1, h2⟩ := wpS_run y h
          exact ⟨o1, by unfold evS; rw [hb]; exact h1, h2⟩
      · exact h.elim
    | _ => simp [wpS] at h
  | .block id c, s, Q, h => by
    unfold wpS at h
    split at h
    · exact lpW_of h
    obtain ⟨o1, h1, h2⟩ := wpS_run c h
    cases o1 with
    | exit i s' =>
      dsimp only at h2
      by_cases hi : i = id
      · rw [if_pos hi] at h2
        exact ⟨_, by unfold evS; rw [h1]; dsimp only; rw [if_pos hi], h2⟩
      · rw [if_neg hi] at h2
        exact ⟨_, by unfold evS; rw [h1]; dsimp only; rw [if_neg hi], h2⟩
    | norm s' => exact ⟨_, by unfold evS; rw [h1], h2⟩
    | goto i s' => exact ⟨_, by unfold evS; rw [h1], h2⟩
    | ret s' => exact ⟨_, by unfold evS; rw [h1], h2⟩
  | .exit id, s, Q, h => ⟨_, rfl, h⟩
  | .label _, s, Q, h => ⟨_, rfl, h⟩
  | .goto l, s, Q, h => ⟨_, rfl, h⟩
  | .ret, s, Q, h => ⟨_, rfl, h⟩
  | .loop _, _, _, h => by simp [wpS] at h
  | .rangeFunc _ _ _ _, _, _, h => by simp [wpS] at h
  | .scope c, s, Q, h => by
    obtain ⟨o1, h1, h2⟩ := wpS_run c h
    cases o1 with
    | goto l s' =>
      dsimp only at h2
      cases hf : findLabel c l with
      | some rest =>
        rw [hf] at h2
        obtain ⟨o, h3, h4⟩ := lpW_of h2
        exact ⟨o, by unfold evS; rw [h1]; dsimp only; rw [hf]; exact h3, h4⟩
      | none =>
        rw [hf] at h2
        exact ⟨_, by unfold evS; rw [h1]; dsimp only; rw [hf], h2⟩
    | norm s' => exact ⟨_, by unfold evS; rw [h1], h2⟩
    | exit i s' => exact ⟨_, by unfold evS; rw [h1], h2⟩
    | ret s' => exact ⟨_, by unfold evS; rw [h1], h2⟩
  | .refuse _, _, _, h => by simp [wpS] at h
/-- What a way through a piece of code tells. -/
theorem wpS_way {E : Ev} {C : Caller} {R : Rets} {K : Keep} {Jl : Code → Sl → Option Out} {Jg : Code → Code → Sl → Option Out} {L : Lps} {c : Code} {s : Sl} {o : Out} {W : Prop} (ht : wpS E C R K Jl Jg L c s (fun x => x = o) = W) (h : W) : evS E C K Jl Jg c s = some o := by
  obtain ⟨out, h1, rfl⟩ := wpS_run c (ht ▸ h)
  exact h1
/-- How loops and labels go on. -/
abbrev Jt := (Code → Sl → Option Out) × (Code → Code → Sl → Option Out)
def evFnJ (F : Fx) (C : Caller) (J : Jt) (fn : FnD) (args : List IV) : Option (IV × List IV) :=
  if args.length ≤ fn.ntmps ∧ args.all okArg = true then
    match evS ⟨F.T, F.G, fn.ntmps, lkFrom 0 args, fn.cv⟩ C fn.keep J.1 J.2 fn.body ((List.range args.length).zip args) with
    | some (.norm s) => finF F C fn args s
    | some (.ret s) => finF F C fn args s
    | _ => none
  else none
/-- Results, told with what is asked of them. -/
def resLW (T : Tab) (σ : St) : List ResultVar → (List Val → Prop) → Prop
  | [], k => k []
  | r :: rs, k => match r with
    | .tmp t => resLW T σ rs fun xs => k (σ.getS t :: xs)
    | .cell a ty => match σ.getS a with
      | .ptr t 0 => match T.get ty with
        | some td => match σ.getT t with
          | .dbox _ cells => match isAggT td with
            | true => condW (decide (cells.length = td.size)) (resLW T σ rs fun xs => k (.d (.agg cells) :: xs)) False
            | false => match cells with
              | [x] => resLW T σ rs fun xs => k (.d x :: xs)
              | _ => False
          | _ => optW (resV T σ r) fun x => resLW T σ rs fun xs => k (x :: xs)
        | none => False
      | _ => False
theorem resLW_of {T : Tab} {σ : St} : ∀ {rs : List ResultVar} {k : List Val → Prop}, resLW T σ rs k → ∃ xs, resL T σ rs = some xs ∧ k xs
  | [], k, h => ⟨[], rfl, h⟩
  | .tmp t :: rs, k, h => by
    unfold resLW at h
    obtain ⟨xs, h1, h2⟩ := resLW_of h
    exact ⟨_, by simp [resL, resV, h1], h2⟩
  | .cell a ty :: rs, k, h => by
    unfold resLW at h
    dsimp only at h
    split at h
    case h_2 => exact h.elim
    rename_i t ht
    split at h
    case h_2 => exact h.elim
    rename_i td htd
    split at h
    · rename_i ty0 cells hen
      split at h
      · rename_i hag
        by_cases hl : cells.length = td.size
        · rw [decide_eq_true hl] at h
          obtain ⟨xs, h1, h2⟩ := resLW_of (k := fun xs => k (.d (.agg cells) :: xs)) h
          exact ⟨_, by simp [resL, resV, ht, htd, hen, hag, hl, h1], h2⟩
        · rw [decide_eq_false hl] at h
          exact h.elim
      · rename_i hag
        split at h
        · obtain ⟨xs, h1, h2⟩ := resLW_of h
          exact ⟨_, by simp [resL, resV, ht, htd, hen, hag, h1], h2⟩
        · exact h.elim
    · obtain ⟨x, h1, h2⟩ := optW_of h
      obtain ⟨xs, h3, h4⟩ := resLW_of h2
      exact ⟨_, by simp [resL, h1, h3], h4⟩
def finW (F : Fx) (C : Caller) (fn : FnD) (args : List IV) (s : Sl) (Q : IV × List IV → Prop) : Prop :=
  match (argL false ((lkData 0 args).map (unpackS s).getS) fun _ _ _ => .ret).run C (unpackS s) with
  | some σ1 => resLW F.T σ1 fn.results fun rv =>
      optW (let σ2 := freezeT σ1 (if fn.cut then cutT rv else [])
        let σ3 := freezeT σ2 (dups (toksL σ2 rv))
        if (toksL σ3 ((lkFrom 0 args).map σ3.getS ++ rv)).Nodup ∧ shpL (args.filter lentI) (packL σ3 ((lkFrom 0 args).map σ3.getS)) = true then
          some (oneI (packL σ3 rv), mergeO args (packL σ3 ((lkFrom 0 args).map σ3.getS)))
        else none) Q
  | none => False
theorem finW_of {F : Fx} {C : Caller} {fn : FnD} {args : List IV} {s : Sl} {Q : IV × List IV → Prop} (h : finW F C fn args s Q) : ∃ y, finF F C fn args s = some y ∧ Q y := by
  unfold finW at h
  split at h
  · rename_i σ1 h1
    obtain ⟨rv, h2, h3⟩ := resLW_of h
    obtain ⟨y, h4, h5⟩ := optW_of h3
    exact ⟨y, by unfold finF; dsimp only; rw [h1]; dsimp only; rw [h2]; exact h4, h5⟩
  · exact h.elim
/-- A function, from its call to what it hands back. -/
def fnW (F : Fx) (C : Caller) (R : Rets) (L : Lps) (J : Jt) (fn : FnD) (args : List IV) (Q : Option (IV × List IV) → Prop) : Prop :=
  condW (decide (args.length ≤ fn.ntmps) && args.all okArg) (wpS ⟨F.T, F.G, fn.ntmps, lkFrom 0 args, fn.cv⟩ C R fn.keep J.1 J.2 L fn.body ((List.range args.length).zip args) fun o => match o with
    | .norm s => finW F C fn args s fun r => Q (some r)
    | .ret s => finW F C fn args s fun r => Q (some r)
    | _ => False) False
theorem fnW_way {F : Fx} {C : Caller} {R : Rets} {L : Lps} {J : Jt} {fn : FnD} {args : List IV} {o : Option (IV × List IV)} {W : Prop} (ht : fnW F C R L J fn args (fun x => x = o) = W) (h : W) : evFnJ F C J fn args = o := by
  have h1 := ht ▸ h
  unfold fnW at h1
  cases hc : (decide (args.length ≤ fn.ntmps) && args.all okArg) with
  | false => rw [hc] at h1; exact h1.elim
  | true =>
    rw [hc] at h1
    obtain ⟨out, h2, h3⟩ := wpS_run fn.body h1
    simp only [Bool.and_eq_true, decide_eq_true_eq] at hc
    unfold evFnJ
    rw [if_pos hc, h2]
    cases out with
    | norm s =>
      obtain ⟨y, h4, h5⟩ := finW_of h3
      exact h4.trans h5
    | ret s =>
      obtain ⟨y, h4, h5⟩ := finW_of h3
      exact h4.trans h5
    | exit i s => exact h3.elim
    | goto i s => exact h3.elim
def blkO (id : Nat) : Out → Out
  | .exit i s => if i = id then .norm s else .exit i s
  | o => o
def Out.isNorm : Out → Bool
  | .norm _ => true
  | _ => false
def Out.isGoto : Out → Bool
  | .goto _ _ => true
  | _ => false
/-- A place in a code. -/
def Code.piece : List Nat → Code → Code
  | [], c => c
  | i :: r, c => match c, i with
    | .seq a _, 0 => piece r a
    | .seq _ b, _ => piece r b
    | .cond _ x _, 0 => piece r x
    | .cond _ _ y, _ => piece r y
    | .block _ c, _ => piece r c
    | .loop c, _ => piece r c
    | .scope c, _ => piece r c
    | c, _ => c
/-- A piece of a function's code, and what it asks. -/
@[reducible] def evP (F : Fx) (C : Caller) (J : Jt) (d : FnD) (lk p : List Nat) (s : Sl) : Option Out :=
  evS ⟨F.T, F.G, d.ntmps, lk, d.cv⟩ C d.keep J.1 J.2 (Code.piece p d.body) s
@[reducible] def wpQ (F : Fx) (C : Caller) (R : Rets) (L : Lps) (J : Jt) (d : FnD) (lk p : List Nat) (s : Sl) (Q : Out → Prop) : Prop :=
  wpS ⟨F.T, F.G, d.ntmps, lk, d.cv⟩ C R d.keep J.1 J.2 L (Code.piece p d.body) s Q
theorem wpQ_way {F : Fx} {C : Caller} {R : Rets} {L : Lps} {J : Jt} {d : FnD} {lk p : List Nat} {s : Sl} {o : Out} {W : Prop} (ht : wpQ F C R L J d lk p s (fun x => x = o) = W) (h : W) : evP F C J d lk p s = some o := wpS_way ht h
/-- The turns of a loop. -/
@[reducible] def evL (J : Jt) (d : FnD) (p : List Nat) (s : Sl) : Option Out := J.1 (Code.piece p d.body) s
/-- From a label of a scope (whose body lies at p) on. -/
@[reducible] def evG (J : Jt) (d : FnD) (p : List Nat) (l : Nat) (s : Sl) : Option Out := J.2 (Code.piece p d.body) ((findLabel (Code.piece p d.body) l).getD .skip) s
/-- What a label's rest asks. -/
@[reducible] def evR (F : Fx) (C : Caller) (J : Jt) (d : FnD) (lk p : List Nat) (l : Nat) (s : Sl) : Option Out :=
  evS ⟨F.T, F.G, d.ntmps, lk, d.cv⟩ C d.keep J.1 J.2 ((findLabel (Code.piece p d.body) l).getD .skip) s
@[reducible] def wpR (F : Fx) (C : Caller) (R : Rets) (L : Lps) (J : Jt) (d : FnD) (lk p : List Nat) (l : Nat) (s : Sl) (Q : Out → Prop) : Prop :=
  wpS ⟨F.T, F.G, d.ntmps, lk, d.cv⟩ C R d.keep J.1 J.2 L ((findLabel (Code.piece p d.body) l).getD .skip) s Q
theorem wpR_way {F : Fx} {C : Caller} {R : Rets} {L : Lps} {J : Jt} {d : FnD} {lk p : List Nat} {l : Nat} {s : Sl} {o : Out} {W : Prop} (ht : wpR F C R L J d lk p l s (fun x => x = o) = W) (h : W) : evR F C J d lk p l s = some o := wpS_way ht h
end Go.Ab

/- More fuel tells the same, and what it tells in the end. No condition. -/
set_option linter.unusedVariables false
set_option linter.unusedSimpArgs false
namespace Go.Ab
open Go

def CLe (C C' : Caller) : Prop := ∀ f args r, C f args = some r → C' f args = some r
theorem run_le {C C' : Caller} (h : CLe C C') : ∀ (p : Prog) {σ σ' : St}, p.run C σ = some σ' → p.run C' σ = some σ' ∧ p.logs C' σ = p.logs C σ
  | .ret, σ, σ', hr => ⟨hr, rfl⟩
  | .fail, σ, σ', hr => by simp [Prog.run] at hr
  | .getS i k, σ, σ', hr => by
    have ih := run_le h (k (σ.getS i)) hr
    exact ⟨ih.1, by simp only [Prog.logs]; rw [ih.2]⟩
  | .putS i v k, σ, σ', hr => by
    have ih := run_le h k hr
    exact ⟨ih.1, by simp only [Prog.logs]; rw [ih.2]⟩
  | .getT t k, σ, σ', hr => by
    have ih := run_le h (k (σ.getT t)) hr
    exact ⟨ih.1, by simp only [Prog.logs]; rw [ih.2]⟩
  | .putT t e k, σ, σ', hr => by
    have ih := run_le h k hr
    exact ⟨ih.1, by simp only [Prog.logs]; rw [ih.2]⟩
  | .need p k, σ, σ', hr => by
    obtain ⟨hp, hr⟩ := need_run hr
    have ih := run_le h k hr
    exact ⟨by simp only [Prog.run, if_pos hp]; exact ih.1, by simp only [Prog.logs]; rw [ih.2]⟩
  | .elem t xs i k, σ, σ', hr => by
    obtain ⟨x, hx, hr⟩ := elem_run hr
    have ih := run_le h (k x) hr
    exact ⟨by simp only [Prog.run, hx]; exact ih.1, by simp only [Prog.logs, hx]; rw [ih.2]⟩
  | .br b x y, σ, σ', hr => by
    cases b with
    | true => exact run_le h x hr
    | false => exact run_le h y hr
  | .call f args k, σ, σ', hr => by
    simp only [Prog.run] at hr
    split at hr
    · rename_i r os hc
      have ih := run_le h (k r os) hr
      have hc' := h _ _ _ hc
      exact ⟨by simp only [Prog.run, hc']; exact ih.1, by simp only [Prog.logs, hc, hc']; exact ih.2⟩
    · cases hr
theorem runOps_le {C C' : Caller} (h : CLe C C') {E : Ev} {ops : Array Oper} : ∀ (l : List Oper) {σ σ' : St}, runOps E C ops l σ = some σ' → runOps E C' ops l σ = some σ'
  | [], σ, σ', hr => hr
  | o :: r, σ, σ', hr => by
    unfold runOps at hr ⊢
    split at hr
    · rename_i σ1 h1
      rw [(run_le h _ h1).1]
      exact runOps_le h r hr
    · cases hr
theorem runDraw_le {C C' : Caller} (h : CLe C C') {E : Ev} {ops : Array Oper} : ∀ (l : List Oper) {σ : St} {r : St × List (List Loc × List Loc)}, runDraw E C ops l σ = some r → runDraw E C' ops l σ = some r
  | [], σ, r, hr => hr
  | o :: l, σ, r, hr => by
    unfold runDraw at hr ⊢
    split at hr
    · rename_i σ1 h1
      have ih := run_le h _ h1
      rw [ih.1]
      split at hr
      · rename_i σ2 ls h2
        dsimp only
        rw [runDraw_le h l h2, ih.2]
        exact hr
      · cases hr
    · cases hr
theorem regionEv_le {C C' : Caller} (h : CLe C C') {E : Ev} {K : Keep} {id : Nat} {ops : Array Oper} {draw : Bool} {s s' : Sl} (hr : regionEv E C K id ops draw s = some s') : regionEv E C' K id ops draw s = some s' := by
  unfold regionEv at hr ⊢
  split at hr
  · split at hr
    · rename_i σ ls h1
      (try dsimp only)
      rw [runDraw_le h _ h1]
      exact hr
    · cases hr
  · split at hr
    · rename_i σ h1
      (try dsimp only)
      rw [runOps_le h _ h1]
      exact hr
    · cases hr
def JLe (J J' : (Code → Sl → Option Out) × (Code → Code → Sl → Option Out)) : Prop := (∀ c s o, J.1 c s = some o → J'.1 c s = some o) ∧ ∀ c r s o, J.2 c r s = some o → J'.2 c r s = some o
theorem evS_le {C C' : Caller} (h : CLe C C') {E : Ev} {K : Keep} {J J' : (Code → Sl → Option Out) × (Code → Code → Sl → Option Out)} (hJ : JLe J J') : ∀ (c : Code) {s : Sl} {o : Out}, evS E C K J.1 J.2 c s = some o → evS E C' K J'.1 J'.2 c s = some o
  | .skip, s, o, hr => hr
  | .region id ops draw, s, o, hr => by
    unfold evS at hr ⊢
    split at hr
    · rename_i s' h1
      rw [regionEv_le h h1]
      exact hr
    · cases hr
  | .seq a b, s, o, hr => by
    unfold evS at hr ⊢
    split at hr
    · rename_i s' h1
      rw [evS_le h hJ a h1]
      exact evS_le h hJ b hr
    · rename_i hn
      rw [evS_le h hJ a hr]
      cases o with
      | norm s' => exact (hn _ hr).elim
      | _ => rfl
  | .cond t x y, s, o, hr => by
    cases t with
    | tmp t =>
      unfold evS at hr ⊢
      split at hr
      · rename_i b hb
        cases b with
        | true => exact evS_le h hJ x hr
        | false => exact evS_le h hJ y hr
      · cases hr
    | _ => simp [evS] at hr
  | .block id c, s, o, hr => by
    unfold evS at hr ⊢
    split at hr
    · rename_i i s' h1
      rw [evS_le h hJ c h1]
      exact hr
    · rename_i hn
      rw [evS_le h hJ c hr]
      cases o with
      | exit i s' => exact (hn _ _ hr).elim
      | _ => rfl
  | .loop c, s, o, hr => by
    unfold evS at hr ⊢
    split at hr
    · rename_i s' h1
      rw [evS_le h hJ c h1]
      exact hJ.1 _ _ _ hr
    · rename_i hn
      rw [evS_le h hJ c hr]
      cases o with
      | norm s' => exact (hn _ hr).elim
      | _ => rfl
  | .scope c, s, o, hr => by
    unfold evS at hr ⊢
    split at hr
    · rename_i l s' h1
      rw [evS_le h hJ c h1]
      dsimp only
      split at hr
      · rename_i rest hl
        (try rw [hl])
        exact hJ.2 _ _ _ _ hr
      · rename_i hl
        (try rw [hl])
        exact hr
    · rename_i hn
      rw [evS_le h hJ c hr]
      cases o with
      | goto l s' => exact (hn _ _ hr).elim
      | _ => rfl
  | .exit id, s, o, hr => hr
  | .label _, s, o, hr => hr
  | .goto l, s, o, hr => hr
  | .ret, s, o, hr => hr
  | .rangeFunc _ _ _ _, s, o, hr => by simp [evS] at hr
  | .refuse _, s, o, hr => by simp [evS] at hr
theorem evJ_le {C C' : Caller} (h : CLe C C') {E : Ev} {K : Keep} : ∀ n, JLe (evJ E C K n) (evJ E C' K (n + 1))
  | 0 => ⟨fun c s o hr => by simp [evJ] at hr, fun c r s o hr => by simp [evJ] at hr⟩
  | n + 1 => by
    have ih := evJ_le h (E := E) (K := K) n
    refine ⟨fun c s o hr => ?_, fun c r s o hr => ?_⟩
    · rw [evJ] at hr ⊢
      dsimp only at hr ⊢
      split at hr
      · rename_i s' h1
        rw [evS_le h ih c h1]
        exact ih.1 _ _ _ hr
      · rename_i hn
        rw [evS_le h ih c hr]
        cases o with
        | norm s' => exact (hn _ hr).elim
        | _ => rfl
    · rw [evJ] at hr ⊢
      dsimp only at hr ⊢
      split at hr
      · rename_i l s' h1
        rw [evS_le h ih r h1]
        dsimp only
        split at hr
        · rename_i rest hl
          (try rw [hl])
          exact ih.2 _ _ _ _ hr
        · rename_i hl
          (try rw [hl])
          exact hr
      · rename_i hn
        rw [evS_le h ih r hr]
        cases o with
        | goto l s' => exact (hn _ _ hr).elim
        | _ => rfl
theorem finF_le {C C' : Caller} (h : CLe C C') {F : Fx} {fn : FnD} {args : List IV} {s : Sl} {r : IV × List IV} (hr : finF F C fn args s = some r) : finF F C' fn args s = some r := by
  unfold finF at hr ⊢
  dsimp only at hr ⊢
  split at hr
  · rename_i σ1 h1
    rw [(run_le h _ h1).1]
    exact hr
  · cases hr
theorem evFn_le {C C' : Caller} (h : CLe C C') {F : Fx} {fn : FnD} {args : List IV} {n : Nat} {r : IV × List IV} (hr : evFn F C n fn args = some r) : evFn F C' (n + 1) fn args = some r := by
  unfold evFn at hr ⊢
  split at hr
  · rename_i hk
    rw [if_pos hk]
    split at hr
    · rename_i s hs
      rw [evS_le h (evJ_le h n) _ hs]
      exact finF_le h hr
    · rename_i s hs
      rw [evS_le h (evJ_le h n) _ hs]
      exact finF_le h hr
    · cases hr
  · cases hr
theorem evF_le {F : Fx} : ∀ n, CLe (evF F n) (evF F (n + 1))
  | 0 => fun f args r hr => by simp [evF] at hr
  | n + 1 => fun f args r hr => by
    have ih := evF_le (F := F) n
    rw [evF] at hr ⊢
    dsimp only at hr ⊢
    split at hr
    · exact hr
    · split at hr
      · exact evFn_le ih hr
      · cases hr
theorem evF_more {F : Fx} {f : FuncId} {args : List IV} {r : IV × List IV} {n : Nat} (h : evF F n f args = some r) : ∀ m, evF F (n + m) f args = some r
  | 0 => h
  | m + 1 => evF_le (n + m) _ _ _ (evF_more h m)
theorem evF_from {F : Fx} {f : FuncId} {args : List IV} {r : IV × List IV} {n : Nat} (h : evF F n f args = some r) {m : Nat} (hm : n ≤ m) : evF F m f args = some r := by
  have := evF_more h (m - n)
  rwa [show n + (m - n) = m by omega] at this
theorem evJ_leC {C C' : Caller} (h : CLe C C') {E : Ev} {K : Keep} : ∀ n, JLe (evJ E C K n) (evJ E C' K n)
  | 0 => ⟨fun c s o hr => by simp [evJ] at hr, fun c r s o hr => by simp [evJ] at hr⟩
  | n + 1 => by
    have ih := evJ_leC h (E := E) (K := K) n
    refine ⟨fun c s o hr => ?_, fun c r s o hr => ?_⟩
    · rw [evJ] at hr ⊢
      dsimp only at hr ⊢
      split at hr
      · rename_i s' h1
        rw [evS_le h ih c h1]
        exact ih.1 _ _ _ hr
      · rename_i hn
        rw [evS_le h ih c hr]
        cases o with
        | norm s' => exact (hn _ hr).elim
        | _ => rfl
    · rw [evJ] at hr ⊢
      dsimp only at hr ⊢
      split at hr
      · rename_i l s' h1
        rw [evS_le h ih r h1]
        dsimp only
        split at hr
        · rename_i rest hl
          (try rw [hl])
          exact ih.2 _ _ _ _ hr
        · rename_i hl
          (try rw [hl])
          exact hr
      · rename_i hn
        rw [evS_le h ih r hr]
        cases o with
        | goto l s' => exact (hn _ _ hr).elim
        | _ => rfl

/-! ### In the end -/
open Classical in
noncomputable def lim {α : Type} (x : Nat → Option α) : Option α := if h : ∃ r n, x n = some r then some (Classical.choose h) else none
theorem lim_up {α : Type} {x : Nat → Option α} {r : α} (h : lim x = some r) : ∃ n, x n = some r := by
  unfold lim at h
  split at h
  · rename_i hx
    simp only [Option.some.injEq] at h
    rw [← h]
    exact Classical.choose_spec hx
  · cases h
theorem lim_of {α : Type} {x : Nat → Option α} (hm : ∀ n r, x n = some r → x (n + 1) = some r) {r : α} {n : Nat} (h : x n = some r) : lim x = some r := by
  have hm' : ∀ k n r, x n = some r → x (n + k) = some r := by
    intro k
    induction k with
    | zero => intro n r h; exact h
    | succ k ih => intro n r h; exact hm _ _ (ih n r h)
  unfold lim
  split
  · rename_i hx
    obtain ⟨m, h2⟩ := Classical.choose_spec hx
    have h3 := hm' m n _ h
    have h4 := hm' n m _ h2
    rw [Nat.add_comm] at h4
    rw [h3] at h4
    exact h4.symm
  · rename_i hx
    exact (hx ⟨r, n, h⟩).elim
/-- What a call tells in the end. -/
noncomputable def W (F : Fx) : Caller := fun f args => lim fun n => evF F n f args
noncomputable def JW (F : Fx) (d : FnD) (lk : List Nat) : Jt :=
  (fun c s => lim fun n => (evJ ⟨F.T, F.G, d.ntmps, lk, d.cv⟩ (evF F n) d.keep n).1 c s, fun c r s => lim fun n => (evJ ⟨F.T, F.G, d.ntmps, lk, d.cv⟩ (evF F n) d.keep n).2 c r s)
theorem CLe.refl (C : Caller) : CLe C C := fun _ _ _ h => h
theorem CLe.trans {C C' C'' : Caller} (h : CLe C C') (h' : CLe C' C'') : CLe C C'' := fun f a r x => h' f a r (h f a r x)
theorem evF_to {F : Fx} {n m : Nat} (h : n ≤ m) : CLe (evF F n) (evF F m) := fun f args r hr => evF_from hr h
theorem evJ_step {F : Fx} {E : Ev} {K : Keep} (n : Nat) : JLe (evJ E (evF F n) K n) (evJ E (evF F (n + 1)) K (n + 1)) := evJ_le (evF_le n) n
theorem evJ_to {F : Fx} {E : Ev} {K : Keep} (n : Nat) : ∀ k, JLe (evJ E (evF F n) K n) (evJ E (evF F (n + k)) K (n + k))
  | 0 => ⟨fun _ _ _ h => h, fun _ _ _ _ h => h⟩
  | k + 1 => ⟨fun c s o h => (evJ_step (n + k)).1 _ _ _ ((evJ_to n k).1 _ _ _ h), fun c r s o h => (evJ_step (n + k)).2 _ _ _ _ ((evJ_to n k).2 _ _ _ _ h)⟩
theorem evJ_from {F : Fx} {E : Ev} {K : Keep} {n m : Nat} (h : n ≤ m) : JLe (evJ E (evF F n) K n) (evJ E (evF F m) K m) := by
  have := evJ_to (F := F) (E := E) (K := K) n (m - n)
  rwa [show n + (m - n) = m by omega] at this
section
variable {F : Fx}
theorem run_lim : ∀ (p : Prog) {σ σ' : St}, p.run (W F) σ = some σ' → ∃ n, p.run (evF F n) σ = some σ' ∧ p.logs (evF F n) σ = p.logs (W F) σ
  | .ret, σ, σ', hr => ⟨0, hr, rfl⟩
  | .fail, σ, σ', hr => by simp [Prog.run] at hr
  | .getS i k, σ, σ', hr => by
    obtain ⟨n, h1, h2⟩ := run_lim (k (σ.getS i)) hr
    exact ⟨n, h1, by simp only [Prog.logs]; rw [h2]⟩
  | .putS i v k, σ, σ', hr => by
    obtain ⟨n, h1, h2⟩ := run_lim k hr
    exact ⟨n, h1, by simp only [Prog.logs]; rw [h2]⟩
  | .getT t k, σ, σ', hr => by
    obtain ⟨n, h1, h2⟩ := run_lim (k (σ.getT t)) hr
    exact ⟨n, h1, by simp only [Prog.logs]; rw [h2]⟩
  | .putT t e k, σ, σ', hr => by
    obtain ⟨n, h1, h2⟩ := run_lim k hr
    exact ⟨n, h1, by simp only [Prog.logs]; rw [h2]⟩
  | .need p k, σ, σ', hr => by
    obtain ⟨hp, hr⟩ := need_run hr
    obtain ⟨n, h1, h2⟩ := run_lim k hr
    exact ⟨n, by simp only [Prog.run, if_pos hp]; exact h1, by simp only [Prog.logs]; rw [h2]⟩
  | .elem t xs i k, σ, σ', hr => by
    obtain ⟨x, hx, hr⟩ := elem_run hr
    obtain ⟨n, h1, h2⟩ := run_lim (k x) hr
    exact ⟨n, by simp only [Prog.run, hx]; exact h1, by simp only [Prog.logs, hx]; rw [h2]⟩
  | .br b x y, σ, σ', hr => by
    cases b with
    | true => exact run_lim x hr
    | false => exact run_lim y hr
  | .call f args k, σ, σ', hr => by
    simp only [Prog.run] at hr
    split at hr
    · rename_i r os hc
      obtain ⟨n, h1, h2⟩ := run_lim (k r os) hr
      obtain ⟨m, h3⟩ := lim_up hc
      have h4 : evF F (n + m) f args = some (r, os) := evF_from h3 (by omega)
      have h5 := run_le (evF_to (F := F) (show n ≤ n + m by omega)) _ h1
      exact ⟨n + m, by simp only [Prog.run, h4]; exact h5.1, by simp only [Prog.logs, h4, hc]; rw [h5.2, h2]⟩
    · cases hr
theorem runOps_lim {E : Ev} {ops : Array Oper} : ∀ (l : List Oper) {σ σ' : St}, runOps E (W F) ops l σ = some σ' → ∃ n, runOps E (evF F n) ops l σ = some σ'
  | [], σ, σ', hr => ⟨0, hr⟩
  | o :: r, σ, σ', hr => by
    unfold runOps at hr
    split at hr
    · rename_i σ1 h1
      obtain ⟨n, h2, _⟩ := run_lim _ h1
      obtain ⟨m, h3⟩ := runOps_lim r hr
      refine ⟨n + m, ?_⟩
      unfold runOps
      rw [(run_le (evF_to (F := F) (show n ≤ n + m by omega)) _ h2).1]
      exact runOps_le (evF_to (F := F) (show m ≤ n + m by omega)) r h3
    · cases hr
theorem runDraw_lim {E : Ev} {ops : Array Oper} : ∀ (l : List Oper) {σ : St} {r : St × List (List Loc × List Loc)}, runDraw E (W F) ops l σ = some r → ∃ n, runDraw E (evF F n) ops l σ = some r
  | [], σ, r, hr => ⟨0, hr⟩
  | o :: l, σ, r, hr => by
    unfold runDraw at hr
    split at hr
    · rename_i σ1 h1
      obtain ⟨n, h2, h2'⟩ := run_lim _ h1
      split at hr
      · rename_i σ2 ls h3
        obtain ⟨m, h4⟩ := runDraw_lim l h3
        refine ⟨n + m, ?_⟩
        have h5 := run_le (evF_to (F := F) (show n ≤ n + m by omega)) _ h2
        unfold runDraw
        rw [h5.1]
        dsimp only
        rw [runDraw_le (evF_to (F := F) (show m ≤ n + m by omega)) l h4, h5.2, h2']
        exact hr
      · cases hr
    · cases hr
theorem regionEv_lim {E : Ev} {K : Keep} {id : Nat} {ops : Array Oper} {draw : Bool} {s s' : Sl} (hr : regionEv E (W F) K id ops draw s = some s') : ∃ n, regionEv E (evF F n) K id ops draw s = some s' := by
  unfold regionEv at hr
  split at hr
  · split at hr
    · rename_i σ ls h1
      obtain ⟨n, h2⟩ := runDraw_lim _ h1
      refine ⟨n, ?_⟩
      unfold regionEv
      dsimp only
      rw [h2]
      exact hr
    · cases hr
  · split at hr
    · rename_i σ h1
      obtain ⟨n, h2⟩ := runOps_lim _ h1
      refine ⟨n, ?_⟩
      unfold regionEv
      dsimp only
      rw [h2]
      exact hr
    · cases hr
theorem evS_lim {E : Ev} {K : Keep} {J : Jt} (hJ1 : ∀ c s o, J.1 c s = some o → ∃ n, (evJ E (evF F n) K n).1 c s = some o) (hJ2 : ∀ c r s o, J.2 c r s = some o → ∃ n, (evJ E (evF F n) K n).2 c r s = some o) : ∀ (c : Code) {s : Sl} {o : Out}, evS E (W F) K J.1 J.2 c s = some o → ∃ n, evS E (evF F n) K (evJ E (evF F n) K n).1 (evJ E (evF F n) K n).2 c s = some o
  | .skip, s, o, hr => ⟨0, hr⟩
  | .region id ops draw, s, o, hr => by
    unfold evS at hr
    split at hr
    · rename_i s' h1
      obtain ⟨n, h2⟩ := regionEv_lim h1
      refine ⟨n, ?_⟩
      unfold evS
      rw [h2]
      exact hr
    · cases hr
  | .seq a b, s, o, hr => by
    unfold evS at hr
    split at hr
    · rename_i s' h1
      obtain ⟨n, h2⟩ := evS_lim hJ1 hJ2 a h1
      obtain ⟨m, h3⟩ := evS_lim hJ1 hJ2 b hr
      refine ⟨n + m, ?_⟩
      unfold evS
      rw [evS_le (evF_to (F := F) (show n ≤ n + m by omega)) (evJ_from (show n ≤ n + m by omega)) a h2]
      exact evS_le (evF_to (F := F) (show m ≤ n + m by omega)) (evJ_from (show m ≤ n + m by omega)) b h3
    · rename_i hn
      obtain ⟨n, h2⟩ := evS_lim hJ1 hJ2 a hr
      refine ⟨n, ?_⟩
      unfold evS
      rw [h2]
      cases o with
      | norm s' => exact (hn _ hr).elim
      | _ => rfl
  | .cond t x y, s, o, hr => by
    cases t with
    | tmp t =>
      unfold evS at hr
      split at hr
      · rename_i b hb
        cases b with
        | true =>
          obtain ⟨n, h2⟩ := evS_lim hJ1 hJ2 x hr
          exact ⟨n, by unfold evS; rw [hb]; exact h2⟩
        | false =>
          obtain ⟨n, h2⟩ := evS_lim hJ1 hJ2 y hr
          exact ⟨n, by unfold evS; rw [hb]; exact h2⟩
      · cases hr
    | _ => simp [evS] at hr
  | .block id c, s, o, hr => by
    unfold evS at hr
    split at hr
    · rename_i i s' h1
      obtain ⟨n, h2⟩ := evS_lim hJ1 hJ2 c h1
      exact ⟨n, by unfold evS; rw [h2]; exact hr⟩
    · rename_i hn
      obtain ⟨n, h2⟩ := evS_lim hJ1 hJ2 c hr
      refine ⟨n, ?_⟩
      unfold evS
      rw [h2]
      cases o with
      | exit i s' => exact (hn _ _ hr).elim
      | _ => rfl
  | .loop c, s, o, hr => by
    unfold evS at hr
    split at hr
    · rename_i s' h1
      obtain ⟨n, h2⟩ := evS_lim hJ1 hJ2 c h1
      obtain ⟨m, h3⟩ := hJ1 _ _ _ hr
      refine ⟨n + m, ?_⟩
      unfold evS
      rw [evS_le (evF_to (F := F) (show n ≤ n + m by omega)) (evJ_from (show n ≤ n + m by omega)) c h2]
      exact (evJ_from (F := F) (show m ≤ n + m by omega)).1 _ _ _ h3
    · rename_i hn
      obtain ⟨n, h2⟩ := evS_lim hJ1 hJ2 c hr
      refine ⟨n, ?_⟩
      unfold evS
      rw [h2]
      cases o with
      | norm s' => exact (hn _ hr).elim
      | _ => rfl
  | .scope c, s, o, hr => by
    unfold evS at hr
    split at hr
    · rename_i l s' h1
      obtain ⟨n, h2⟩ := evS_lim hJ1 hJ2 c h1
      split at hr
      · rename_i rest hl
        obtain ⟨m, h3⟩ := hJ2 _ _ _ _ hr
        refine ⟨n + m, ?_⟩
        unfold evS
        rw [evS_le (evF_to (F := F) (show n ≤ n + m by omega)) (evJ_from (show n ≤ n + m by omega)) c h2]
        dsimp only
        (try rw [hl])
        exact (evJ_from (F := F) (show m ≤ n + m by omega)).2 _ _ _ _ h3
      · rename_i hl
        refine ⟨n, ?_⟩
        unfold evS
        rw [h2]
        dsimp only
        (try rw [hl])
        exact hr
    · rename_i hn
      obtain ⟨n, h2⟩ := evS_lim hJ1 hJ2 c hr
      refine ⟨n, ?_⟩
      unfold evS
      rw [h2]
      cases o with
      | goto l s' => exact (hn _ _ hr).elim
      | _ => rfl
  | .exit id, s, o, hr => ⟨0, hr⟩
  | .label _, s, o, hr => ⟨0, hr⟩
  | .goto l, s, o, hr => ⟨0, hr⟩
  | .ret, s, o, hr => ⟨0, hr⟩
  | .rangeFunc _ _ _ _, s, o, hr => by simp [evS] at hr
  | .refuse _, s, o, hr => by simp [evS] at hr
theorem finF_lim {fn : FnD} {args : List IV} {s : Sl} {r : IV × List IV} (hr : finF F (W F) fn args s = some r) : ∃ n, finF F (evF F n) fn args s = some r := by
  unfold finF at hr
  dsimp only at hr
  split at hr
  · rename_i σ1 h1
    obtain ⟨n, h2, _⟩ := run_lim _ h1
    refine ⟨n, ?_⟩
    unfold finF
    dsimp only
    rw [h2]
    exact hr
  · cases hr
variable {d : FnD} {lk : List Nat}
theorem JW_1 {c : Code} {s : Sl} {o : Out} (h : (JW F d lk).1 c s = some o) : ∃ n, (evJ ⟨F.T, F.G, d.ntmps, lk, d.cv⟩ (evF F n) d.keep n).1 c s = some o := lim_up h
theorem JW_2 {c r : Code} {s : Sl} {o : Out} (h : (JW F d lk).2 c r s = some o) : ∃ n, (evJ ⟨F.T, F.G, d.ntmps, lk, d.cv⟩ (evF F n) d.keep n).2 c r s = some o := lim_up h
theorem JW_1_of {c : Code} {s : Sl} {o : Out} {n : Nat} (h : (evJ ⟨F.T, F.G, d.ntmps, lk, d.cv⟩ (evF F n) d.keep n).1 c s = some o) : (JW F d lk).1 c s = some o :=
  lim_of (fun n r h => (evJ_step n).1 _ _ _ h) h
theorem JW_2_of {c r : Code} {s : Sl} {o : Out} {n : Nat} (h : (evJ ⟨F.T, F.G, d.ntmps, lk, d.cv⟩ (evF F n) d.keep n).2 c r s = some o) : (JW F d lk).2 c r s = some o :=
  lim_of (fun n r h => (evJ_step n).2 _ _ _ _ h) h
theorem evP_lim {p : List Nat} {s : Sl} {o : Out} (h : evP F (W F) (JW F d lk) d lk p s = some o) : ∃ n, ∀ m, n ≤ m → evS ⟨F.T, F.G, d.ntmps, lk, d.cv⟩ (evF F m) d.keep (evJ ⟨F.T, F.G, d.ntmps, lk, d.cv⟩ (evF F m) d.keep m).1 (evJ ⟨F.T, F.G, d.ntmps, lk, d.cv⟩ (evF F m) d.keep m).2 (Code.piece p d.body) s = some o := by
  obtain ⟨n, h1⟩ := evS_lim (fun c s o => JW_1) (fun c r s o => JW_2) _ h
  exact ⟨n, fun m hm => evS_le (evF_to hm) (evJ_from hm) _ h1⟩
theorem evR_lim {p : List Nat} {l : Nat} {s : Sl} {o : Out} (h : evR F (W F) (JW F d lk) d lk p l s = some o) : ∃ n, ∀ m, n ≤ m → evS ⟨F.T, F.G, d.ntmps, lk, d.cv⟩ (evF F m) d.keep (evJ ⟨F.T, F.G, d.ntmps, lk, d.cv⟩ (evF F m) d.keep m).1 (evJ ⟨F.T, F.G, d.ntmps, lk, d.cv⟩ (evF F m) d.keep m).2 ((findLabel (Code.piece p d.body) l).getD .skip) s = some o := by
  obtain ⟨n, h1⟩ := evS_lim (fun c s o => JW_1) (fun c r s o => JW_2) _ h
  exact ⟨n, fun m hm => evS_le (evF_to hm) (evJ_from hm) _ h1⟩
/-- A call, from its function. -/
theorem W_fn {f : FuncId} {args : List IV} {r : IV × List IV} (hp : F.prim f = none) (hc : F.code f = some d) (h : evFnJ F (W F) (JW F d (lkFrom 0 args)) d args = some r) : W F f args = some r := by
  have key : ∃ n, evFn F (evF F n) n d args = some r := by
    unfold evFnJ at h
    split at h
    case isFalse => cases h
    rename_i hk
    split at h
    · rename_i s hs
      obtain ⟨n, h1⟩ := evS_lim (fun c s o => JW_1) (fun c r s o => JW_2) _ hs
      obtain ⟨m, h2⟩ := finF_lim h
      refine ⟨n + m, ?_⟩
      unfold evFn
      rw [if_pos hk, evS_le (evF_to (F := F) (show n ≤ n + m by omega)) (evJ_from (show n ≤ n + m by omega)) _ h1]
      exact finF_le (evF_to (F := F) (show m ≤ n + m by omega)) h2
    · rename_i s hs
      obtain ⟨n, h1⟩ := evS_lim (fun c s o => JW_1) (fun c r s o => JW_2) _ hs
      obtain ⟨m, h2⟩ := finF_lim h
      refine ⟨n + m, ?_⟩
      unfold evFn
      rw [if_pos hk, evS_le (evF_to (F := F) (show n ≤ n + m by omega)) (evJ_from (show n ≤ n + m by omega)) _ h1]
      exact finF_le (evF_to (F := F) (show m ≤ n + m by omega)) h2
    · cases h
  obtain ⟨n, hn⟩ := key
  refine lim_of (n := n + 1) (fun n r h => evF_le n _ _ _ h) ?_
  show (match F.prim f with | some p => p args | none => match F.code f with | some fn => evFn F (evF F n) n fn args | none => none) = _
  rw [hp, hc]
  exact hn
theorem W_prim {f : FuncId} {args : List IV} {r : IV × List IV} {p : List IV → Option (IV × List IV)} (hp : F.prim f = some p) (h : p args = some r) : W F f args = some r := by
  refine lim_of (n := 1) (fun n r h => evF_le n _ _ _ h) ?_
  show (match F.prim f with | some p => p args | none => match F.code f with | some fn => evFn F (evF F 0) 0 fn args | none => none) = _
  rw [hp]
  exact h
theorem W_ev {f : FuncId} {args : List IV} {r : IV × List IV} {n : Nat} (h : evF F n f args = some r) : W F f args = some r := lim_of (fun n r h => evF_le n _ _ _ h) h
theorem W_sound {P : Program} (hF : FxOk P F) : CSound P F.G (W F) := fun f args r outs h => by
  obtain ⟨n, hn⟩ := lim_up h
  exact evF_sound hF n f args r outs hn
/-- A loop's turns. -/
theorem evL_go {p : List Nat} {s s' : Sl} {o : Out} (h : evP F (W F) (JW F d lk) d lk p s = some (.norm s')) (h2 : evL (JW F d lk) d p s' = some o) : evL (JW F d lk) d p s = some o := by
  obtain ⟨n, h1⟩ := evP_lim h
  obtain ⟨m, h3⟩ := JW_1 h2
  refine JW_1_of (n := n + m + 1) ?_
  refine (evJ_leC (evF_le (n + m)) (n + m + 1)).1 _ _ _ ?_
  rw [evJ]
  dsimp only
  rw [h1 (n + m) (by omega)]
  exact (evJ_from (F := F) (show m ≤ n + m by omega)).1 _ _ _ h3
theorem evL_end {p : List Nat} {s : Sl} {o : Out} (h : evP F (W F) (JW F d lk) d lk p s = some o) (ho : o.isNorm = false) : evL (JW F d lk) d p s = some o := by
  obtain ⟨n, h1⟩ := evP_lim h
  refine JW_1_of (n := n + 1) ?_
  refine (evJ_leC (evF_le n) (n + 1)).1 _ _ _ ?_
  rw [evJ]
  dsimp only
  rw [h1 n (by omega)]
  cases o <;> first | rfl | cases ho
theorem evL_at {p p' : List Nat} {id : Nat} {s : Sl} {o o' : Out} (hc : Code.piece p d.body = .block id (.loop (Code.piece p' d.body))) (h : evL (JW F d lk) d p' s = some o) (ho : blkO id o = o') : evP F (W F) (JW F d lk) d lk p s = some o' := by
  -- a turn ahead is as the loop itself
  have h1 : evS ⟨F.T, F.G, d.ntmps, lk, d.cv⟩ (W F) d.keep (JW F d lk).1 (JW F d lk).2 (.loop (Code.piece p' d.body)) s = some o := by
    obtain ⟨n, h2⟩ := JW_1 h
    cases n with
    | zero => simp [evJ] at h2
    | succ n =>
      rw [evJ] at h2
      dsimp only at h2
      have hup : ∀ c s o, evS ⟨F.T, F.G, d.ntmps, lk, d.cv⟩ (evF F (n + 1)) d.keep (evJ ⟨F.T, F.G, d.ntmps, lk, d.cv⟩ (evF F (n + 1)) d.keep n).1 (evJ ⟨F.T, F.G, d.ntmps, lk, d.cv⟩ (evF F (n + 1)) d.keep n).2 c s = some o → evS ⟨F.T, F.G, d.ntmps, lk, d.cv⟩ (W F) d.keep (JW F d lk).1 (JW F d lk).2 c s = some o := fun c s o hr => by
        refine evS_le (J := evJ ⟨F.T, F.G, d.ntmps, lk, d.cv⟩ (evF F (n + 1)) d.keep n) (fun f a r hh => W_ev hh) ⟨fun c s o hh => ?_, fun c r s o hh => ?_⟩ c hr
        · exact JW_1_of (n := n + 1 + 1) ((evJ_le (evF_le (n + 1)) (n + 1)).1 _ _ _ ((evJ_le (CLe.refl _) n).1 _ _ _ hh))
        · exact JW_2_of (n := n + 1 + 1) ((evJ_le (evF_le (n + 1)) (n + 1)).2 _ _ _ _ ((evJ_le (CLe.refl _) n).2 _ _ _ _ hh))
      split at h2
      · rename_i s' h3
        unfold evS
        rw [hup _ _ _ h3]
        exact JW_1_of (n := n + 1 + 1) ((evJ_le (evF_le (n + 1)) (n + 1)).1 _ _ _ ((evJ_le (CLe.refl _) n).1 _ _ _ h2))
      · rename_i hn
        unfold evS
        rw [hup _ _ _ h2]
        cases o with
        | norm s' => exact (hn _ h2).elim
        | _ => rfl
  unfold evP
  rw [hc]
  unfold evS
  rw [h1, ← ho]
  cases o with
  | exit i s =>
    dsimp only [blkO]
    by_cases hi : i = id
    · rw [if_pos hi, if_pos hi]
    · rw [if_neg hi, if_neg hi]
  | _ => rfl
theorem evG_go {p : List Nat} {l l' : Nat} {s s' : Sl} {o : Out} (hl : (findLabel (Code.piece p d.body) l').isSome = true) (h : evR F (W F) (JW F d lk) d lk p l s = some (.goto l' s')) (h2 : evG (JW F d lk) d p l' s' = some o) : evG (JW F d lk) d p l s = some o := by
  obtain ⟨rest, hr⟩ := Option.isSome_iff_exists.1 hl
  obtain ⟨n, h1⟩ := evR_lim h
  obtain ⟨m, h3⟩ := JW_2 h2
  refine JW_2_of (n := n + m + 1) ?_
  refine (evJ_leC (evF_le (n + m)) (n + m + 1)).2 _ _ _ _ ?_
  rw [evJ]
  dsimp only
  rw [h1 (n + m) (by omega)]
  dsimp only
  rw [hr]
  rw [hr, Option.getD_some] at h3
  exact (evJ_from (F := F) (show m ≤ n + m by omega)).2 _ _ _ _ h3
theorem evG_end {p : List Nat} {l : Nat} {s : Sl} {o : Out} (h : evR F (W F) (JW F d lk) d lk p l s = some o) (ho : o.isGoto = false) : evG (JW F d lk) d p l s = some o := by
  obtain ⟨n, h1⟩ := evR_lim h
  refine JW_2_of (n := n + 1) ?_
  refine (evJ_leC (evF_le n) (n + 1)).2 _ _ _ _ ?_
  rw [evJ]
  dsimp only
  rw [h1 n (by omega)]
  cases o <;> first | rfl | cases ho
end
end Go.Ab
