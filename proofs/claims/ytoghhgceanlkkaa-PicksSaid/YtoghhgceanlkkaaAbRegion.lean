/- Regions: the operations one behind the other, in whatever order the machine draws. No condition. -/
import Derived.Test.YtoghhgceanlkkaaAbCall2
set_option linter.unusedVariables false
set_option linter.unusedSimpArgs false
namespace Go.Ab
open Go

def callOpP (E : Ev) (o : Oper) (c : Call) : Prog :=
  match c.callee with
  | .value f => if c.args.size ≤ c.argTypes.size then callP E o f (c.argTypes.toList.zip c.args.toList) else .fail
  | .builtin b => match b, c.args.toList, c.argTypes.toList with
    | .append, [s, x], [t1, t2] => appendP E o s x t1 t2
    | .len, [x], [t] => lenP E o t x
    | .complex, [x, y], [t1, t2] => cpxP E o t1 t2 x y
    | .real, [x], [t] => reimP E o false t x
    | .imag, [x], [t] => reimP E o true t x
    | .max, [x, y], [t, _] => max2P E o true t x y
    | .min, [x, y], [t, _] => max2P E o false t x y
    | _, _, _ => .fail
  | _ => .fail
/-- An operation's program, without its guard. -/
def opP (E : Ev) (o : Oper) : Prog :=
  match o.op with
  | .move x => moveP E o x
  | .assign x => moveP E o x
  | .pick c x y => pickP E o c x y
  | .alloc ty => allocP E o ty
  | .box ty x => boxP E o ty x
  | .build t ps => buildP E o t ps
  | .buildSlice t n ps => bsliceP E o t n ps
  | .load t p => loadP E o t p
  | .store t p x => storeP E o t p x
  | .nilCheck x => nilCheckP E o x
  | .binOp op t x y _ => binP E o op t x y
  | .unOp op _ x => unP E o op x
  | .convert s d x => convP E o s d x
  | .makeFunc fn first caps => match fn, first.toList with
    | .func f, [] => makeFuncP E o f caps
    | _, _ => .fail
  | .makeSlice t l c => makeP E o t l c
  | .slice t x lo hi mx => sliceP E o t x lo hi mx
  | .fieldAddr s x f => fieldAddrP E o s x f
  | .field t x f => fieldP E o t x f
  | .indexAddr t x i => indexAddrP E o t x i
  | .index t x i => indexP E o t x i
  | .extract x i => extractP E o x i
  | .call c => callOpP E o c
  | _ => .fail
/-- What is put where a guard leaves the operation out. -/
def skipP (E : Ev) (o : Oper) : Prog := putD E o .und
def guardP (E : Ev) (ops : Array Oper) (o : Oper) : Prog :=
  match o.guard with
  | none => opP E o
  | some (j, want) => match (ops[j]?).bind (·.dst) with
    | none => .fail
    | some d => if d < E.N then .getS d fun v => match v with
      | .d (.bool b) => .br (b == want) (opP E o) (skipP E o)
      | .und => skipP E o
      | _ => .fail
      else .fail

section
variable {X : Cx} {E : Ev} {C : Caller}

theorem failP_ok (o : Oper) : OpOk X C o .fail := by
  intro H L σ a w σ' r h
  exact (fail_run h).elim
theorem list2 {α : Type} {xs : Array α} {x y : α} (h : xs.toList = [x, y]) : xs = #[x, y] := by
  have := congrArg List.toArray h
  simpa using this
theorem list1 {α : Type} {xs : Array α} {x : α} (h : xs.toList = [x]) : xs = #[x] := by
  have := congrArg List.toArray h
  simpa using this
theorem callOpP_ok (k : Cxk X E) (hC : CSound X.P E.G C) {o : Oper} {c : Call} (ho : o.op = .call c) : OpOk X C o (callOpP E o c) := by
  obtain ⟨callee, args, tys⟩ := c
  unfold callOpP
  dsimp only
  split
  · rename_i f hf
    split
    · rename_i hle
      exact callP_ok k hC (by rw [List.map_snd_zip (by simpa using hle)]) ho
    · exact failP_ok o
  · rename_i b hb
    split
    · rename_i s x t1 t2 ha ht
      rw [list2 ha, list2 ht] at ho
      exact appendP_ok k ho
    · rename_i x t ha ht
      rw [list1 ha, list1 ht] at ho
      exact lenP_ok k ho
    · rename_i x y t1 t2 ha ht
      rw [list2 ha] at ho
      exact cpxP_ok k ho
    · rename_i x t ha ht
      rw [list1 ha] at ho
      exact reimP_ok (im := false) k ho
    · rename_i x t ha ht
      rw [list1 ha] at ho
      exact reimP_ok (im := true) k ho
    · rename_i x y t t2 ha ht
      rw [list2 ha] at ho
      exact max2P_ok (mx := true) k ho
    · rename_i x y t t2 ha ht
      rw [list2 ha] at ho
      exact max2P_ok (mx := false) k ho
    · exact failP_ok o
  · exact failP_ok o
theorem opP_ok (k : Cxk X E) (hC : CSound X.P E.G C) (o : Oper) : OpOk X C o (opP E o) := by
  unfold opP
  cases h : o.op with
  | move x => exact moveP_ok k (.inl h)
  | assign x => exact moveP_ok k (.inr h)
  | pick c x y => exact pickP_ok k h
  | alloc ty => exact allocP_ok k h
  | box ty x => exact boxP_ok k h
  | build t ps => exact buildP_ok k h
  | buildSlice t n ps => exact bsliceP_ok k h
  | load t p => exact loadP_ok k h
  | store t p x => exact storeP_ok k h
  | nilCheck x => exact nilCheckP_ok k h
  | binOp op t x y _ => exact binP_ok k h
  | unOp op _ x => exact unP_ok k h
  | convert s d x => exact convP_ok k h
  | makeFunc fn first caps =>
    dsimp only
    split
    · rename_i f hf
      have : first = #[] := by simpa using hf
      rw [this] at h
      exact makeFuncP_ok k h
    · exact failP_ok o
  | makeSlice t l c => exact makeP_ok k h
  | slice t x lo hi mx => exact sliceP_ok k h
  | fieldAddr s x f => exact fieldAddrP_ok k h
  | field t x f => exact fieldP_ok k h
  | indexAddr t x i => exact indexAddrP_ok k h
  | index t x i => exact indexP_ok k h
  | extract x i => exact extractP_ok k h
  | call c => exact callOpP_ok k hC h
  | _ => exact failP_ok o

/-- An operation at its place: its guard asked, and carried out or left out. -/
def OpAt (X : Cx) (C : Caller) (ops : Array Oper) (i : Nat) (p : Prog) : Prop :=
  ∀ (H : Fz) (L : Vl) (σ : St) (a : Act) (w : World) (σ' : St), Rel X H L σ a w → p.run C σ = some σ' →
    ∀ (K : Act → World → Prop) (Q : Exit → Act → World → Prop), (∀ H' L' a' w', Rel X H' L' σ' a' w' → K a' w') → wpOp X.P ops Q i K a w
theorem skipP_ok (k : Cxk X E) {H : Fz} {L : Vl} {σ σ' : St} {a : Act} {w : World} (r : Rel X H L σ a w) {o : Oper} (h : (skipP E o).run C σ = some σ') : Rel X H L σ' (a.put o.dst undef) w := putD_run k r und_rep h
theorem guardP_ok (k : Cxk X E) (hC : CSound X.P E.G C) {ops : Array Oper} {i : Nat} {o : Oper} (hi : ops[i]? = some o) : OpAt X C ops i (guardP E ops o) := by
  intro H L σ a w σ' r h K Q hK
  unfold wpOp
  rw [hi]
  dsimp only
  unfold guardP at h
  split at h
  · rename_i hg
    have hw : Region.wanted o (yielded ops a.tmps) = true := by simp [Region.wanted, hg]
    rw [if_pos hw]
    exact .inl (opP_ok k hC o H L σ a w σ' r h K Q hK)
  · rename_i j want hg
    split at h
    · exact (fail_run h).elim
    rename_i d hd
    split at h
    case isFalse => exact (fail_run h).elim
    rename_i hdN
    simp only [Prog.run] at h
    have hrep := r.env d
    have hlt : d < a.tmps.size := by rw [r.size, ← k.n]; exact hdN
    have hget : a.tmps[d]? = some (a.tmps.getD d undef) := by simp [hlt]
    have hy : yielded ops a.tmps j = match a.tmps.getD d undef with | .bool b => some b | _ => none := by
      unfold yielded
      rw [hd]
      simp only [Option.bind_some, hget]
      generalize a.tmps.getD d undef = vv
      cases vv <;> simp
    split at h
    · rename_i b hb
      rw [hb] at hrep
      have e1 := repD_bool hrep
      rw [e1] at hy
      simp only [Prog.run] at h
      by_cases hbw : (b == want) = true
      · rw [if_pos hbw] at h
        have hw : Region.wanted o (yielded ops a.tmps) = true := by
          simp only [Region.wanted, hg, hy]
          simpa using hbw
        rw [if_pos hw]
        exact .inl (opP_ok k hC o H L σ a w σ' r h K Q hK)
      · rw [if_neg hbw] at h
        have hw : ¬ Region.wanted o (yielded ops a.tmps) = true := by
          simp only [Region.wanted, hg, hy]
          simpa using hbw
        rw [if_neg hw]
        exact hK _ _ _ _ (skipP_ok k r h)
    · rename_i hb
      rw [hb] at hrep
      unfold Val.Rep at hrep
      rw [hrep] at hy
      have hw : ¬ Region.wanted o (yielded ops a.tmps) = true := by
        simp [Region.wanted, hg, hy, undef]
      rw [if_neg hw]
      exact hK _ _ _ _ (skipP_ok k r h)
    · exact (fail_run h).elim

/-! ### In the text's order -/
def runOps (E : Ev) (C : Caller) (ops : Array Oper) : List Oper → St → Option St
  | [], σ => some σ
  | o :: r, σ => match (guardP E ops o).run C σ with
    | some σ1 => runOps E C ops r σ1
    | none => none
theorem runOps_ok (k : Cxk X E) (hC : CSound X.P E.G C) {ops : Array Oper} {Q : Exit → Act → World → Prop} {σ' : St} (hQ : ∀ H' L' a' w', Rel X H' L' σ' a' w' → Q .normal a' w') : ∀ (n i : Nat), i + n = ops.size → ∀ {H : Fz} {L : Vl} {σ : St} {a : Act} {w : World}, Rel X H L σ a w → runOps E C ops (ops.toList.drop i) σ = some σ' → wpOps X.P ops Q (List.range' i n) a w
  | 0, i, hi, H, L, σ, a, w, r, h => by
    rw [List.drop_of_length_le (by simp; omega)] at h
    simp only [runOps, Option.some.injEq] at h
    subst h
    exact hQ _ _ _ _ r
  | n + 1, i, hi, H, L, σ, a, w, r, h => by
    have hlt : i < ops.toList.length := by simp; omega
    rw [List.drop_eq_getElem_cons hlt] at h
    unfold runOps at h
    split at h
    · rename_i σ1 h1
      rw [List.range'_succ, wpOps_cons]
      exact guardP_ok k hC (by simp) H L σ a w σ1 r h1 _ Q fun H' L' a' w' r' => runOps_ok k hC hQ n (i + 1) (by omega) r' h
    · cases h
end
end Go.Ab
