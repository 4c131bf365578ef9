/- A row of bytes as a string. No condition. -/
import Derived.Laws.BytesArg
import Derived.Test.YtjhganbjbiihoaaDoorClauses0
import Derived.Test.YtjhganbjbiihoaaDoorClauses1
import Derived.Test.YtjhganbjbiihoaaDoorClauses2
import Derived.Test.YtjhganbjbiihoaaDoorClauses3
import Derived.Test.YtjhganbjbiihoaaDoorClauses4
import Derived.Test.YtjhganbjbiihoaaDoorClauses5
import Derived.Test.YtjhganbjbiihoaaDoorClauses6
import Derived.Test.YtjhganbjbiihoaaDoorClauses7
set_option linter.unusedVariables false
set_option linter.unusedSimpArgs false
namespace Go.Ab
open Go

def bytesOf : List D → Option (List Int)
  | [] => some []
  | .int .u8 n :: r => (bytesOf r).map (n :: ·)
  | _ => none
theorem bytesOf_rep {H : Fz} : ∀ {xs : List D} {l : List Int} {c : List Value}, bytesOf xs = some l → D.RepL H xs c → c = l.map (Value.int .u8) ∧ xs.length = l.length
  | [], l, c, h, hc => by
    simp only [bytesOf, Option.some.injEq] at h
    subst h
    unfold D.RepL at hc
    exact ⟨hc, rfl⟩
  | x :: xs, l, c, h, hc => by
    unfold bytesOf at h
    split at h
    · rename_i e; cases e
    · rename_i n r e
      cases e
      simp only [Option.map_eq_some_iff] at h
      obtain ⟨l', h1, rfl⟩ := h
      unfold D.RepL at hc
      obtain ⟨a, b, rfl, e1, e2⟩ := hc
      unfold D.Rep at e1
      obtain ⟨e3, e4⟩ := bytesOf_rep h1 e2
      subst e1 e3
      exact ⟨rfl, by simp [e4]⟩
    · cases h
def convB (E : Ev) (o : Oper) (src dst : TypeId) (x : Operand) : Prog :=
  opnd E.T E.G src x fun v => match E.T.get src, E.T.get dst, v with
    | some { desc := .slice e, .. }, some { desc := .string, .. }, .ref t none => match E.T.get e with
      | some { desc := .int .u8, .. } => .getT t fun en => match en with
        | .row _ _ _ _ xs => match bytesOf xs with
          | some l => putD E o (.d (.str (strOfNums l)))
          | none => .fail
        | _ => .fail
      | _ => .fail
    | _, _, _ => convP E o src dst x
section
variable {X : Cx} {E : Ev} {C : Caller}
theorem convB_ok (k : Cxk X E) {o : Oper} {src dst : TypeId} {x : Operand} (ho : o.op = .convert src dst x) : OpOk X C o (convB E o src dst x) := by
  intro H L σ a w σ' r h K Q hK
  obtain ⟨v, h1, h2⟩ := opnd_run k r h
  split at h1
  · rename_i e _ _ _ _ _ _ _ _ t hs hd
    have u1 := (k.tab _ _ hs).und
    have u2 := (k.tab _ _ hd).und
    split at h1
    case h_2 => exact (fail_run h1).elim
    rename_i _ _ _ _ he
    have u3 := (k.tab _ _ he).und
    simp only [Prog.run] at h1
    split at h1
    case h_2 => exact (fail_run h1).elim
    rename_i m nl ty sz xs hrow
    split at h1
    case h_2 => exact (fail_run h1).elim
    rename_i l hl
    unfold Val.Rep at h2
    obtain ⟨hL, A, n, c, e1⟩ := h2
    have hent := r.ents t
    rw [hrow] at hent
    obtain ⟨v', cells, g1, g2, g3, _, _, _⟩ := hent
    rw [hL] at g1
    cases g1
    obtain ⟨e2, e3⟩ := bytesOf_rep hl g3
    rw [e1] at g2
    have hrun : (convert src dst (.slice A n c)).run X.P w = .ok (.string (strOfNums l)) w := by
      rcases own_lies g2 with ⟨rfl, h0, rfl, rfl, h4⟩ | ⟨g, rfl, hn, hcell⟩
      · have hl0 : l = [] := by cases l with
          | nil => rfl
          | cons _ _ => simp at e3; omega
        subst hl0
        exact run_convert_bytes_nil w src e u1 u3 0 0 dst u2
      · refine run_convert_bytes_arg w src e u1 u3 g 0 n c l (by omega) (fun i hi => ?_) dst u2
        have h5 : cells[i]? = some (.int .u8 (l.getD i 0)) := by
          have : i < l.length := by omega
          rw [e2]
          simp [List.getElem?_eq_getElem this, List.getD]
        have h6 := hcell i _ h5
        have e4 : (⟨g, 0, none⟩ : Addr).add i = ⟨g, 0 + i, none⟩ := by unfold Addr.add; split <;> simp_all
        rw [e4] at h6
        exact h6
    exact wp_value (w1 := w) (by simp [execOp, ho, e1, hrun]) (hK _ _ _ _ (putD_run k r rep_str h1))
  · exact convP_ok k ho H L σ a w σ' r h1 K Q hK
end
end Go.Ab

/- Regions: the operations one behind the other, in whatever order the machine draws. No condition. -/
set_option linter.unusedVariables false
set_option linter.unusedSimpArgs false
namespace Go.Ab
open Go

def callOpP (E : Ev) (o : Oper) (c : Call) : Prog :=
  match c.callee with
  | .value f => if c.args.size ≤ c.argTypes.size then callQ E o f (c.argTypes.toList.zip c.args.toList) else .fail
  | .builtin b => match b, c.args.toList, c.argTypes.toList with
    | .append, [s, x], [t1, t2] => appendP E o s x t1 t2
    | .len, [x], [t] => lenP E o t x
    | .complex, [x, y], [t1, t2] => cpxP E o t1 t2 x y
    | .real, [x], [t] => reimP E o false t x
    | .imag, [x], [t] => reimP E o true t x
    | .max, [x, y], [t, _] => max2P E o true t x y
    | .min, [x, y], [t, _] => max2P E o false t x y
    | .clear, [x], [t] => clearP E o t x
    | _, _, _ => .fail
  | _ => .fail
/-- An operation's program, without its guard. -/
def opP (E : Ev) (o : Oper) : Prog :=
  match o.op with
  | .move x => moveP E o x
  | .assign x => moveP E o x
  | .pick c x y => pickP E o c x y
  | .alloc ty => allocP E o ty
  | .box ty x => boxP E o ty x
  | .build t ps => buildP E o t ps
  | .buildSlice t n ps => bsliceP E o t n ps
  | .load t p => loadP E o t p
  | .store t p x => storeP E o t p x
  | .nilCheck x => nilCheckP E o x
  | .binOp op t x y _ => binP E o op t x y
  | .unOp op _ x => unP E o op x
  | .convert s d x => convB E o s d x
  | .makeFunc fn first caps => match fn, first.toList with
    | .func f, [] => makeFuncP E o f caps
    | _, _ => .fail
  | .makeSlice t l c => makeP E o t l c
  | .slice t x lo hi mx => sliceP E o t x lo hi mx
  | .fieldAddr s x f => fieldAddrP E o s x f
  | .field t x f => fieldP E o t x f
  | .indexAddr t x i => indexAddrP E o t x i
  | .index t x i => indexP E o t x i
  | .extract x i => extractP E o x i
  | .call c => callOpP E o c
  | _ => .fail
/-- What is put where a guard leaves the operation out. -/
def skipP (E : Ev) (o : Oper) : Prog := putD E o .und
def guardP (E : Ev) (ops : Array Oper) (o : Oper) : Prog :=
  match o.guard with
  | none => opP E o
  | some (j, want) => match (ops[j]?).bind (·.dst) with
    | none => .fail
    | some d => if d < E.N then .getS d fun v => match v with
      | .d (.bool b) => .br (b == want) (opP E o) (skipP E o)
      | .und => skipP E o
      | _ => .fail
      else .fail

section
variable {X : Cx} {E : Ev} {C : Caller}

theorem failP_ok (o : Oper) : OpOk X C o .fail := by
  intro H L σ a w σ' r h
  exact (fail_run h).elim
theorem list2 {α : Type} {xs : Array α} {x y : α} (h : xs.toList = [x, y]) : xs = #[x, y] := by
  have := congrArg List.toArray h
  simpa using this
theorem list1 {α : Type} {xs : Array α} {x : α} (h : xs.toList = [x]) : xs = #[x] := by
  have := congrArg List.toArray h
  simpa using this
theorem callOpP_ok (k : Cxk X E) (hC : CSound X.P E.G C) {o : Oper} {c : Call} (ho : o.op = .call c) : OpOk X C o (callOpP E o c) := by
  obtain ⟨callee, args, tys⟩ := c
  unfold callOpP
  dsimp only
  split
  · rename_i f hf
    split
    · rename_i hle
      exact callQ_ok k hC (by rw [List.map_snd_zip (by simpa using hle)]) ho
    · exact failP_ok o
  · rename_i b hb
    split
    · rename_i s x t1 t2 ha ht
      rw [list2 ha, list2 ht] at ho
      exact appendP_ok k ho
    · rename_i x t ha ht
      rw [list1 ha, list1 ht] at ho
      exact lenP_ok k ho
    · rename_i x y t1 t2 ha ht
      rw [list2 ha] at ho
      exact cpxP_ok k ho
    · rename_i x t ha ht
      rw [list1 ha] at ho
      exact reimP_ok (im := false) k ho
    · rename_i x t ha ht
      rw [list1 ha] at ho
      exact reimP_ok (im := true) k ho
    · rename_i x y t t2 ha ht
      rw [list2 ha] at ho
      exact max2P_ok (mx := true) k ho
    · rename_i x y t t2 ha ht
      rw [list2 ha] at ho
      exact max2P_ok (mx := false) k ho
    · rename_i x t ha ht
      rw [list1 ha, list1 ht] at ho
      exact clearP_ok k ho
    · exact failP_ok o
  · exact failP_ok o
theorem opP_ok (k : Cxk X E) (hC : CSound X.P E.G C) (o : Oper) : OpOk X C o (opP E o) := by
  unfold opP
  cases h : o.op with
  | move x => exact moveP_ok k (.inl h)
  | assign x => exact moveP_ok k (.inr h)
  | pick c x y => exact pickP_ok k h
  | alloc ty => exact allocP_ok k h
  | box ty x => exact boxP_ok k h
  | build t ps => exact buildP_ok k h
  | buildSlice t n ps => exact bsliceP_ok k h
  | load t p => exact loadP_ok k h
  | store t p x => exact storeP_ok k h
  | nilCheck x => exact nilCheckP_ok k h
  | binOp op t x y _ => exact binP_ok k h
  | unOp op _ x => exact unP_ok k h
  | convert s d x => exact convB_ok k h
  | makeFunc fn first caps =>
    dsimp only
    split
    · rename_i f hf
      have : first = #[] := by simpa using hf
      rw [this] at h
      exact makeFuncP_ok k h
    · exact failP_ok o
  | makeSlice t l c => exact makeP_ok k h
  | slice t x lo hi mx => exact sliceP_ok k h
  | fieldAddr s x f => exact fieldAddrP_ok k h
  | field t x f => exact fieldP_ok k h
  | indexAddr t x i => exact indexAddrP_ok k h
  | index t x i => exact indexP_ok k h
  | extract x i => exact extractP_ok k h
  | call c => exact callOpP_ok k hC h
  | _ => exact failP_ok o

/-- An operation at its place: its guard asked, and carried out or left out. -/
def OpAt (X : Cx) (C : Caller) (ops : Array Oper) (i : Nat) (p : Prog) : Prop :=
  ∀ (H : Fz) (L : Vl) (σ : St) (a : Act) (w : World) (σ' : St), Rel X H L σ a w → p.run C σ = some σ' →
    ∀ (K : Act → World → Prop) (Q : Exit → Act → World → Prop), (∀ H' L' a' w', Rel X H' L' σ' a' w' → K a' w') → wpOp X.P ops Q i K a w
theorem skipP_ok (k : Cxk X E) {H : Fz} {L : Vl} {σ σ' : St} {a : Act} {w : World} (r : Rel X H L σ a w) {o : Oper} (h : (skipP E o).run C σ = some σ') : Rel X H L σ' (a.put o.dst undef) w := putD_run k r und_rep h
theorem guardP_ok (k : Cxk X E) (hC : CSound X.P E.G C) {ops : Array Oper} {i : Nat} {o : Oper} (hi : ops[i]? = some o) : OpAt X C ops i (guardP E ops o) := by
  intro H L σ a w σ' r h K Q hK
  unfold wpOp
  rw [hi]
  dsimp only
  unfold guardP at h
  split at h
  · rename_i hg
    have hw : Region.wanted o (yielded ops a.tmps) = true := by simp [Region.wanted, hg]
    rw [if_pos hw]
    exact .inl (opP_ok k hC o H L σ a w σ' r h K Q hK)
  · rename_i j want hg
    split at h
    · exact (fail_run h).elim
    rename_i d hd
    split at h
    case isFalse => exact (fail_run h).elim
    rename_i hdN
    simp only [Prog.run] at h
    have hrep := r.env d
    have hlt : d < a.tmps.size := by rw [r.size, ← k.n]; exact hdN
    have hget : a.tmps[d]? = some (a.tmps.getD d undef) := by simp [hlt]
    have hy : yielded ops a.tmps j = match a.tmps.getD d undef with | .bool b => some b | _ => none := by
      unfold yielded
      rw [hd]
      simp only [Option.bind_some, hget]
      generalize a.tmps.getD d undef = vv
      cases vv <;> simp
    split at h
    · rename_i b hb
      rw [hb] at hrep
      have e1 := repD_bool hrep
      rw [e1] at hy
      simp only [Prog.run] at h
      by_cases hbw : (b == want) = true
      · rw [if_pos hbw] at h
        have hw : Region.wanted o (yielded ops a.tmps) = true := by
          simp only [Region.wanted, hg, hy]
          simpa using hbw
        rw [if_pos hw]
        exact .inl (opP_ok k hC o H L σ a w σ' r h K Q hK)
      · rw [if_neg hbw] at h
        have hw : ¬ Region.wanted o (yielded ops a.tmps) = true := by
          simp only [Region.wanted, hg, hy]
          simpa using hbw
        rw [if_neg hw]
        exact hK _ _ _ _ (skipP_ok k r h)
    · rename_i hb
      rw [hb] at hrep
      unfold Val.Rep at hrep
      rw [hrep] at hy
      have hw : ¬ Region.wanted o (yielded ops a.tmps) = true := by
        simp [Region.wanted, hg, hy, undef]
      rw [if_neg hw]
      exact hK _ _ _ _ (skipP_ok k r h)
    · exact (fail_run h).elim

/-! ### In the text's order -/
def runOps (E : Ev) (C : Caller) (ops : Array Oper) : List Oper → St → Option St
  | [], σ => some σ
  | o :: r, σ => match (guardP E ops o).run C σ with
    | some σ1 => runOps E C ops r σ1
    | none => none
theorem runOps_ok (k : Cxk X E) (hC : CSound X.P E.G C) {ops : Array Oper} {Q : Exit → Act → World → Prop} {σ' : St} (hQ : ∀ H' L' a' w', Rel X H' L' σ' a' w' → Q .normal a' w') : ∀ (n i : Nat), i + n = ops.size → ∀ {H : Fz} {L : Vl} {σ : St} {a : Act} {w : World}, Rel X H L σ a w → runOps E C ops (ops.toList.drop i) σ = some σ' → wpOps X.P ops Q (List.range' i n) a w
  | 0, i, hi, H, L, σ, a, w, r, h => by
    rw [List.drop_of_length_le (by simp; omega)] at h
    simp only [runOps, Option.some.injEq] at h
    subst h
    exact hQ _ _ _ _ r
  | n + 1, i, hi, H, L, σ, a, w, r, h => by
    have hlt : i < ops.toList.length := by simp; omega
    rw [List.drop_eq_getElem_cons hlt] at h
    unfold runOps at h
    split at h
    · rename_i σ1 h1
      rw [List.range'_succ, wpOps_cons]
      exact guardP_ok k hC (by simp) H L σ a w σ1 r h1 _ Q fun H' L' a' w' r' => runOps_ok k hC hQ n (i + 1) (by omega) r' h
    · cases h
end
end Go.Ab

/- Regions whose order the machine draws: operations that write nothing that others read come to the same in any order. No condition. -/
set_option linter.unusedVariables false
set_option linter.unusedSimpArgs false
namespace Go.Ab
open Go

def St.get (σ : St) : Loc → Val × Ent
  | .s i => (σ.getS i, .fresh)
  | .t t => (.dead, σ.getT t)
def St.eqv (σ τ : St) : Prop := ∀ l, σ.get l = τ.get l
theorem St.eqv.refl (σ : St) : σ.eqv σ := fun _ => rfl
theorem St.eqv.trans {σ τ υ : St} (h : σ.eqv τ) (h' : τ.eqv υ) : σ.eqv υ := fun l => (h l).trans (h' l)
theorem St.eqv.symm {σ τ : St} (h : σ.eqv τ) : τ.eqv σ := fun l => (h l).symm
theorem St.eqv.s {σ τ : St} (h : σ.eqv τ) (i : Nat) : σ.getS i = τ.getS i := congrArg Prod.fst (h (.s i))
theorem St.eqv.t {σ τ : St} (h : σ.eqv τ) (t : Tok) : σ.getT t = τ.getT t := congrArg Prod.snd (h (.t t))
theorem get_putS (σ : St) (i : Nat) (v : Val) (l : Loc) : (σ.putS i v).get l = if l = .s i then (v, .fresh) else σ.get l := by
  cases l with
  | s j =>
    show ((σ.putS i v).getS j, _) = _
    rw [St.getS_putS]
    by_cases h : i = j
    · subst h; simp
    · rw [if_neg h, if_neg (by intro e; cases e; exact h rfl)]; rfl
  | t u => rw [if_neg (by simp)]; rfl
theorem get_putT (σ : St) (t : Tok) (e : Ent) (l : Loc) : (σ.putT t e).get l = if l = .t t then (.dead, e) else σ.get l := by
  cases l with
  | s j => rw [if_neg (by simp)]; rfl
  | t u =>
    show (_, (σ.putT t e).getT u) = _
    rw [St.getT_putT]
    by_cases h : t = u
    · subst h; simp
    · rw [if_neg h, if_neg (by intro e; cases e; exact h rfl)]; rfl

section
variable {C : Caller}

/-- What an operation does hangs on what it reads alone. -/
theorem Prog.local (p : Prog) : ∀ {σ σ' τ : St}, p.run C σ = some σ' → (∀ l ∈ (p.logs C σ).1, τ.get l = σ.get l) →
    ∃ τ', p.run C τ = some τ' ∧ p.logs C τ = p.logs C σ ∧ (∀ l ∈ (p.logs C σ).2, τ'.get l = σ'.get l) ∧ ∀ l, l ∉ (p.logs C σ).2 → τ'.get l = τ.get l ∧ σ'.get l = σ.get l := by
  induction p with
  | ret =>
    intro σ σ' τ h _
    simp only [Prog.run, Option.some.injEq] at h
    subst h
    exact ⟨τ, rfl, rfl, by simp [Prog.logs], fun l _ => ⟨rfl, rfl⟩⟩
  | fail => intro σ σ' τ h; simp [Prog.run] at h
  | getS i k ih =>
    intro σ σ' τ h hr
    simp only [Prog.run, Prog.logs] at h hr ⊢
    have e : τ.getS i = σ.getS i := congrArg Prod.fst (hr (.s i) (by simp))
    rw [e]
    obtain ⟨τ', h1, h2, h3, h4⟩ := ih (σ.getS i) h (fun l hl => hr l (List.mem_cons_of_mem _ hl))
    exact ⟨τ', h1, by rw [h2], h3, h4⟩
  | getT t k ih =>
    intro σ σ' τ h hr
    simp only [Prog.run, Prog.logs] at h hr ⊢
    have e : τ.getT t = σ.getT t := congrArg Prod.snd (hr (.t t) (by simp))
    rw [e]
    obtain ⟨τ', h1, h2, h3, h4⟩ := ih (σ.getT t) h (fun l hl => hr l (List.mem_cons_of_mem _ hl))
    exact ⟨τ', h1, by rw [h2], h3, h4⟩
  | putS i v k ih =>
    intro σ σ' τ h hr
    simp only [Prog.run, Prog.logs] at h hr ⊢
    obtain ⟨τ', h1, h2, h3, h4⟩ := ih (σ := σ.putS i v) (τ := τ.putS i v) h (fun l hl => by
      rw [get_putS, get_putS]
      split
      · rfl
      · exact hr l hl)
    refine ⟨τ', h1, by rw [h2], fun l hl => ?_, fun l hl => ?_⟩
    · by_cases hm : l ∈ (k.logs C (σ.putS i v)).2
      · exact h3 l hm
      · have := h4 l hm
        rw [this.1, this.2, get_putS, get_putS]
        rcases List.mem_cons.1 hl with rfl | hl
        · simp
        · exact (hm hl).elim
    · simp only [List.mem_cons, not_or] at hl
      have := h4 l hl.2
      rw [this.1, this.2, get_putS, get_putS, if_neg hl.1, if_neg hl.1]
      exact ⟨rfl, rfl⟩
  | putT t e k ih =>
    intro σ σ' τ h hr
    simp only [Prog.run, Prog.logs] at h hr ⊢
    obtain ⟨τ', h1, h2, h3, h4⟩ := ih (σ := σ.putT t e) (τ := τ.putT t e) h (fun l hl => by
      rw [get_putT, get_putT]
      split
      · rfl
      · exact hr l hl)
    refine ⟨τ', h1, by rw [h2], fun l hl => ?_, fun l hl => ?_⟩
    · by_cases hm : l ∈ (k.logs C (σ.putT t e)).2
      · exact h3 l hm
      · have := h4 l hm
        rw [this.1, this.2, get_putT, get_putT]
        rcases List.mem_cons.1 hl with rfl | hl
        · simp
        · exact (hm hl).elim
    · simp only [List.mem_cons, not_or] at hl
      have := h4 l hl.2
      rw [this.1, this.2, get_putT, get_putT, if_neg hl.1, if_neg hl.1]
      exact ⟨rfl, rfl⟩
  | need p k ih =>
    intro σ σ' τ h hr
    obtain ⟨hp, h⟩ := need_run h
    simp only [Prog.logs] at hr ⊢
    obtain ⟨τ', h1, h2⟩ := ih h hr
    exact ⟨τ', by simp only [Prog.run, if_pos hp]; exact h1, h2⟩
  | elem tg xs i k ih =>
    intro σ σ' τ h hr
    obtain ⟨x, hx, h⟩ := elem_run h
    simp only [Prog.logs, hx] at hr ⊢
    obtain ⟨τ', h1, h2⟩ := ih x h hr
    exact ⟨τ', by simp only [Prog.run, hx]; exact h1, h2⟩
  | br b x y ihx ihy =>
    intro σ σ' τ h hr
    simp only [Prog.run, Prog.logs] at h hr ⊢
    by_cases hb : b = true
    · simp only [hb, if_true] at h hr ⊢
      exact ihx h hr
    · simp only [hb, if_false, Bool.false_eq_true] at h hr ⊢
      exact ihy h hr
  | call f args k ih =>
    intro σ σ' τ h hr
    simp only [Prog.run, Prog.logs] at h hr ⊢
    cases hc : C f args with
    | none => rw [hc] at h; cases h
    | some p =>
      obtain ⟨r, outs⟩ := p
      rw [hc] at h hr
      exact ih r outs h hr

def Apart2 (x y : List Loc × List Loc) : Bool := x.2.all (fun l => !(y.1.contains l) && !(y.2.contains l)) && y.2.all (fun l => !(x.1.contains l))
theorem apart2_spec {x y : List Loc × List Loc} (h : Apart2 x y = true) : (∀ l ∈ x.2, l ∉ y.1 ∧ l ∉ y.2) ∧ ∀ l ∈ y.2, l ∉ x.1 := by
  simp only [Apart2, Bool.and_eq_true, List.all_eq_true, Bool.not_eq_true', List.contains_eq_mem, decide_eq_false_iff_not] at h
  exact ⟨fun l hl => h.1 l hl, fun l hl => h.2 l hl⟩
theorem eqv_run {p : Prog} {σ τ σ' : St} (h : p.run C σ = some σ') (he : τ.eqv σ) : ∃ τ', p.run C τ = some τ' ∧ p.logs C τ = p.logs C σ ∧ τ'.eqv σ' := by
  obtain ⟨τ', h1, h2, h3, h4⟩ := p.local h (τ := τ) (fun l _ => he l)
  refine ⟨τ', h1, h2, fun l => ?_⟩
  by_cases hl : l ∈ (p.logs C σ).2
  · exact h3 l hl
  · rw [(h4 l hl).1, (h4 l hl).2]; exact he l
theorem commute {p q : Prog} {σ σ1 σ2 : St} (h1 : p.run C σ = some σ1) (h2 : q.run C σ1 = some σ2) (ha : Apart2 (p.logs C σ) (q.logs C σ1) = true) :
    ∃ τ1 τ2, q.run C σ = some τ1 ∧ q.logs C σ = q.logs C σ1 ∧ p.run C τ1 = some τ2 ∧ p.logs C τ1 = p.logs C σ ∧ τ2.eqv σ2 := by
  obtain ⟨a1, a2⟩ := apart2_spec ha
  obtain ⟨_, _, _, _, hp⟩ := p.local h1 (τ := σ) (fun l _ => rfl)
  have hr : ∀ l ∈ (q.logs C σ1).1, σ.get l = σ1.get l := fun l hl => by
    have : l ∉ (p.logs C σ).2 := fun hm => (a1 l hm).1 hl
    exact ((hp l this).2).symm
  obtain ⟨τ1, k1, k2, k3, k4⟩ := q.local h2 (τ := σ) hr
  have hr2 : ∀ l ∈ (p.logs C σ).1, τ1.get l = σ.get l := fun l hl => by
    have : l ∉ (q.logs C σ1).2 := fun hm => a2 l hm hl
    exact (k4 l this).1
  obtain ⟨τ2, m1, m2, m3, m4⟩ := p.local h1 (τ := τ1) hr2
  refine ⟨τ1, τ2, k1, k2, m1, m2, fun l => ?_⟩
  by_cases hl : l ∈ (p.logs C σ).2
  · rw [m3 l hl]
    exact ((k4 l (a1 l hl).2).2).symm
  · rw [(m4 l hl).1]
    by_cases hl2 : l ∈ (q.logs C σ1).2
    · exact k3 l hl2
    · rw [(k4 l hl2).1, (k4 l hl2).2, (hp l hl).2]

/-- One behind the other, with what is read and written told. -/
def RunsTo (C : Caller) (f : Nat → Prog) (ℓ : Nat → List Loc × List Loc) : List Nat → St → St → Prop
  | [], σ, σ' => σ.eqv σ'
  | i :: r, σ, σ' => ∃ σ1, (f i).run C σ = some σ1 ∧ (f i).logs C σ = ℓ i ∧ RunsTo C f ℓ r σ1 σ'
theorem RunsTo.eqv {f : Nat → Prog} {ℓ : Nat → List Loc × List Loc} : ∀ {l : List Nat} {σ τ σ' : St}, RunsTo C f ℓ l σ σ' → τ.eqv σ → RunsTo C f ℓ l τ σ'
  | [], σ, τ, σ', h, he => he.trans h
  | i :: r, σ, τ, σ', h, he => by
    obtain ⟨σ1, h1, h2, h3⟩ := h
    obtain ⟨τ1, k1, k2, k3⟩ := eqv_run h1 he
    exact ⟨τ1, k1, k2.trans h2, RunsTo.eqv h3 k3⟩
theorem RunsTo.first {f : Nat → Prog} {ℓ : Nat → List Loc × List Loc} {i : Nat} {r : List Nat} {σ' : St} : ∀ {js : List Nat} {σ : St}, RunsTo C f ℓ (js ++ i :: r) σ σ' → (∀ j ∈ js, Apart2 (ℓ j) (ℓ i) = true) →
    ∃ σ1, (f i).run C σ = some σ1 ∧ (f i).logs C σ = ℓ i ∧ RunsTo C f ℓ (js ++ r) σ1 σ'
  | [], σ, h, _ => h
  | j :: js, σ, h, ha => by
    obtain ⟨σj, h1, h2, h3⟩ := h
    obtain ⟨σ1, k1, k2, k3⟩ := RunsTo.first h3 (fun j' hj' => ha j' (List.mem_cons_of_mem _ hj'))
    have hap : Apart2 ((f j).logs C σ) ((f i).logs C σj) = true := by rw [h2, k2]; exact ha j (by simp)
    obtain ⟨τ1, τ2, m1, m2, m3, m4, m5⟩ := commute h1 k1 hap
    exact ⟨τ1, m1, m2.trans k2, τ2, m3, m4.trans h2, RunsTo.eqv k3 m5⟩
end

theorem Rel.congr {X : Cx} {H : Fz} {L : Vl} {σ τ : St} {a : Act} {w : World} (r : Rel X H L σ a w) (h : τ.eqv σ) : Rel X H L τ a w where
  le := r.le
  sub := r.sub
  fr := r.fr
  defers := r.defers
  size := r.size
  env := fun i => by rw [h.s]; exact r.env i
  ents := fun t => by rw [h.t]; exact r.ents t
  apart := fun t t' b hne h1 h2 => by rw [h.t] at h1 h2; exact r.apart t t' b hne h1 h2
  lk := r.lk
  fz := r.fz

/-! ### The orders -/
/-- The operations that must come ahead, and those ahead of these. -/
def predsL : List Oper → List (List Nat) → List (List Nat)
  | [], acc => acc
  | o :: r, acc => predsL r (acc ++ [(o.after.toList.flatMap fun e => if Region.binds .any e then e.on :: acc.getD e.on [] else []).eraseDups])
/-- All edges lead back. -/
def edgesOk : List Oper → Nat → Bool
  | [], _ => true
  | o :: r, i => o.after.toList.all (fun e => !Region.binds .any e || decide (e.on < i)) && edgesOk r (i + 1)
/-- Each two operations are told one ahead of the other, or are apart. -/
def pairsOk (ps : List (List Nat)) (ls : List (List Loc × List Loc)) : Bool :=
  (List.range ls.length).all fun i => (List.range i).all fun j => (ps.getD i []).contains j || Apart2 (ls.getD j ([], [])) (ls.getD i ([], []))

/-- j must come ahead of i. -/
inductive Ahead (ops : Array Oper) : Nat → Nat → Prop
  | one {i : Nat} {o : Oper} {e : Edge} (hi : ops[i]? = some o) (he : e ∈ o.after) (hb : Region.binds .any e = true) : Ahead ops e.on i
  | more {i j : Nat} {o : Oper} {e : Edge} (hi : ops[i]? = some o) (he : e ∈ o.after) (hb : Region.binds .any e = true) (h : Ahead ops j e.on) : Ahead ops j i
theorem predsL_ahead (ops : Array Oper) : ∀ (l : List Oper) (acc : List (List Nat)), (∀ i o, l[i]? = some o → ops[acc.length + i]? = some o) → (∀ i j, j ∈ acc.getD i [] → Ahead ops j i) → ∀ i j, j ∈ (predsL l acc).getD i [] → Ahead ops j i
  | [], acc, _, h => h
  | o :: r, acc, hl, h => by
    unfold predsL
    refine predsL_ahead ops r _ (fun i o' ho' => ?_) (fun i j hj => ?_)
    · have := hl (i + 1) o' (by simpa using ho')
      rw [List.length_append]
      simpa [Nat.add_assoc, Nat.add_comm 1 i] using this
    · rw [List.getD_eq_getElem?_getD] at hj
      by_cases hi : i < acc.length
      · rw [List.getElem?_append_left hi] at hj
        exact h i j (by rw [List.getD_eq_getElem?_getD]; exact hj)
      · rw [List.getElem?_append_right (Nat.le_of_not_lt hi)] at hj
        by_cases hi2 : i - acc.length = 0
        · have he : i = acc.length := by omega
          rw [hi2] at hj
          simp only [List.getElem?_cons_zero, Option.getD_some, List.mem_eraseDups, List.mem_flatMap] at hj
          obtain ⟨e, he1, he2⟩ := hj
          split at he2
          · rename_i hb
            have ho := hl 0 o (by simp)
            rw [Nat.add_zero, ← he] at ho
            rcases List.mem_cons.1 he2 with rfl | he2
            · exact .one ho (by simpa using he1) hb
            · exact .more ho (by simpa using he1) hb (h _ _ he2)
          · simp at he2
        · rw [List.getElem?_eq_none (by simp; omega)] at hj
          simp at hj
theorem ahead_listed {ops : Array Oper} {listed : Array Bool} (hdc : ∀ k o, listed.getD k false = true → ops[k]? = some o → ∀ e ∈ o.after, Region.binds .any e = true → listed.getD e.on false = true) {i j : Nat} (h : Ahead ops j i) :
    (∀ o, ops[i]? = some o → ∀ e ∈ o.after, Region.binds .any e = true → listed.getD e.on false = true) → listed.getD j false = true := by
  induction h with
  | one hi he hb => exact fun h => h _ hi _ he hb
  | more hi he hb h ih => exact fun h2 => ih (fun o ho e' he' hb' => hdc _ o (h2 _ hi _ he hb) ho e' he' hb')

section
variable {X : Cx} {E : Ev} {C : Caller}

theorem edgesOk_spec {ops : Array Oper} : ∀ (l : List Oper) (i : Nat), edgesOk l i = true → ∀ k o, l[k]? = some o → ∀ e ∈ o.after, Region.binds .any e = true → e.on < i + k
  | [], _, _, k, o, hk => by simp at hk
  | o :: r, i, h, k, o', hk => by
    unfold edgesOk at h
    simp only [Bool.and_eq_true] at h
    intro e he hb
    cases k with
    | zero =>
      simp at hk
      subst hk
      have := List.all_eq_true.1 h.1 e (by simpa using he)
      simp [hb] at this
      omega
    | succ k =>
      have := edgesOk_spec (ops := ops) r (i + 1) h.2 k o' (by simpa using hk) e he hb
      omega

/-- The numbers that have not come up yet. -/
def rest (n : Nat) (listed : Array Bool) : List Nat := (List.range n).filter fun i => !listed.getD i true
theorem rest_split {n : Nat} {listed : Array Bool} {i : Nat} (hs : listed.size = n) (hi : i ∈ rest n listed) : ∃ js r, rest n listed = js ++ i :: r ∧ rest n (listed.setIfInBounds i true) = js ++ r ∧ ∀ j ∈ js, j < i ∧ listed.getD j true = false := by
  have hm := List.mem_filter.1 hi
  have hin : i < n := List.mem_range.1 hm.1
  have hsplit : List.range n = List.range i ++ i :: List.range' (i + 1) (n - i - 1) := by
    have e1 : List.range n = List.range' 0 n := List.range_eq_range'
    have e2 : n = i + (1 + (n - i - 1)) := by omega
    rw [e1]
    conv => lhs; rw [e2]
    rw [← List.range'_append_1, ← List.range_eq_range', Nat.zero_add, Nat.add_comm 1, List.range'_succ]
  have hne : ∀ j, j ≠ i → (listed.setIfInBounds i true).getD j true = listed.getD j true := fun j hj => getD_set_ne true (Ne.symm hj)
  refine ⟨(List.range i).filter fun i => !listed.getD i true, (List.range' (i + 1) (n - i - 1)).filter fun i => !listed.getD i true, ?_, ?_, fun j hj => ?_⟩
  · unfold rest
    rw [hsplit, List.filter_append, List.filter_cons, if_pos hm.2]
  · unfold rest
    rw [hsplit, List.filter_append, List.filter_cons, if_neg (by simp [hs, hin])]
    congr 1
    · refine List.filter_congr fun j hj => ?_
      rw [hne j (by have := List.mem_range.1 hj; omega)]
    · refine List.filter_congr fun j hj => ?_
      rw [hne j (by have := List.mem_range'_1.1 hj; omega)]
  · have := List.mem_filter.1 hj
    exact ⟨List.mem_range.1 this.1, by simpa using this.2⟩
theorem draw_ok (k : Cxk X E) (hC : CSound X.P E.G C) {ops : Array Oper} {Q : Exit → Act → World → Prop} {σ' : St} (hQ : ∀ H' L' a' w', Rel X H' L' σ' a' w' → Q .normal a' w') {ℓ : Nat → List Loc × List Loc}
    (hedge : edgesOk ops.toList 0 = true) (hpair : ∀ i j, j < i → i < ops.size → Ahead ops j i ∨ Apart2 (ℓ j) (ℓ i) = true) :
    ∀ (fuel : Nat) (listed : Array Bool), listed.size = ops.size → (rest ops.size listed).length = fuel → (∀ k o, listed.getD k false = true → ops[k]? = some o → ∀ e ∈ o.after, Region.binds .any e = true → listed.getD e.on false = true) →
    ∀ {H : Fz} {L : Vl} {σ : St} {a : Act} {w : World}, Rel X H L σ a w → RunsTo C (fun i => match ops[i]? with | some o => guardP E ops o | none => .ret) ℓ (rest ops.size listed) σ σ' → wpAny X.P .any ops Q fuel listed a w
  | 0, listed, hs, hf, hdc, H, L, σ, a, w, r, h => by
    have hnil : rest ops.size listed = [] := List.eq_nil_of_length_eq_zero hf
    refine ⟨?_, ?_⟩
    · apply List.eq_nil_iff_forall_not_mem.2
      intro i hi
      obtain ⟨h1, o, ho, _⟩ := mem_ready.1 hi
      have : i ∈ rest ops.size listed := List.mem_filter.2 ⟨List.mem_range.2 (Array.getElem?_eq_some_iff.1 ho).1, by simp [h1]⟩
      rw [hnil] at this
      simp at this
    · rw [hnil] at h
      exact hQ _ _ _ _ (r.congr h.symm)
  | fuel + 1, listed, hs, hf, hdc, H, L, σ, a, w, r, h => by
    refine ⟨fun hready => ?_, fun i hi => ?_⟩
    · -- the first that has not come up may come up
      cases hr : rest ops.size listed with
      | nil => rw [hr] at hf; simp at hf
      | cons i rr =>
        exfalso
        have hi : i ∈ rest ops.size listed := by rw [hr]; simp
        obtain ⟨js, r2, e1, _, e3⟩ := rest_split hs hi
        have hjs : js = [] := by
          cases js with
          | nil => rfl
          | cons j js =>
            rw [hr] at e1
            simp only [List.cons_append, List.cons.injEq] at e1
            have := (e3 j (by simp)).1
            omega
        have hm := List.mem_filter.1 hi
        have hlt : i < ops.size := List.mem_range.1 hm.1
        have hmem : i ∈ Region.ready .any ops listed := mem_ready.2 ⟨by simpa using hm.2, ops[i], Array.getElem?_eq_getElem hlt, fun e he hb => by
          have h1 := edgesOk_spec (ops := ops) ops.toList 0 hedge i ops[i] (by simp [hlt]) e he hb
          rw [Nat.zero_add] at h1
          by_cases hl : listed.getD e.on false = true
          · exact hl
          · exfalso
            have hlt2 : e.on < listed.size := by omega
            have h2 : e.on ∈ rest ops.size listed := List.mem_filter.2 ⟨List.mem_range.2 (by omega), by
              simp [hlt2] at hl ⊢; exact hl⟩
            rw [e1, hjs] at h2
            rcases List.mem_cons.1 h2 with h3 | h3
            · omega
            · have hsorted : (rest ops.size listed).Pairwise (· < ·) := List.Pairwise.filter _ List.pairwise_lt_range
              rw [e1, hjs] at hsorted
              have := (List.pairwise_cons.1 hsorted).1 _ h3
              omega⟩
        rw [hready] at hmem
        simp at hmem
    · obtain ⟨h1, o, ho, hall⟩ := mem_ready.1 hi
      have hlt : i < ops.size := (Array.getElem?_eq_some_iff.1 ho).1
      have hir : i ∈ rest ops.size listed := List.mem_filter.2 ⟨List.mem_range.2 hlt, by simp [h1]⟩
      obtain ⟨js, r2, e1, e2, e3⟩ := rest_split hs hir
      rw [e1] at h
      obtain ⟨σ1, k1, k2, k3⟩ := RunsTo.first h (fun j hj => by
        have hj2 := e3 j hj
        rcases hpair i j hj2.1 hlt with ha | ha
        · exfalso
          have := ahead_listed hdc ha (fun o' ho' => by rw [ho] at ho'; cases ho'; exact hall)
          have hjl : j < listed.size := by omega
          have h4 := hj2.2
          simp [hjl] at this h4
          rw [h4] at this
          cases this
        · exact ha)
      rw [← e2] at k3
      simp only [ho] at k1
      refine guardP_ok k hC ho H L σ a w σ1 r k1 _ Q fun H' L' a' w' r' => ?_
      refine draw_ok k hC hQ hedge hpair fuel _ (by simpa using hs) ?_ (fun k' o' hk' ho' e he hb => ?_) r' k3
      · rw [e2]
        rw [e1] at hf
        simp at hf ⊢
        omega
      · by_cases hki : k' = i
        · subst hki
          rw [ho] at ho'
          cases ho'
          exact getD_set_true (hall e he hb)
        · refine getD_set_true (hdc k' o' ?_ ho' e he hb)
          rw [getD_set_ne false (Ne.symm hki)] at hk'
          exact hk'
end
end Go.Ab
