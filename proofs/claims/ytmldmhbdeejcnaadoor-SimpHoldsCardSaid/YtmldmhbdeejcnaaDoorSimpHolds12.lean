/- Signatures, rows of terms, atoms: what may be, in plain lists. No program in sight; no condition. -/
import Derived.Test.YtmldmhbdeejcnaaDoorSimpHolds0
import Derived.Test.YtmldmhbdeejcnaaDoorSimpHolds1
import Derived.Test.YtmldmhbdeejcnaaDoorSimpHolds2
import Derived.Test.YtmldmhbdeejcnaaDoorSimpHolds3
import Derived.Test.YtmldmhbdeejcnaaDoorSimpHolds4
import Derived.Test.YtmldmhbdeejcnaaDoorSimpHolds5
import Derived.Test.YtmldmhbdeejcnaaDoorSimpHolds6
import Derived.Test.YtmldmhbdeejcnaaDoorSimpHolds7
import Derived.Test.YtmldmhbdeejcnaaDoorSimpHolds8
import Derived.Test.YtmldmhbdeejcnaaDoorSimpHolds9
import Derived.Test.YtmldmhbdeejcnaaDoorSimpHolds10
import Derived.Test.YtmldmhbdeejcnaaDoorSimpHolds11
set_option linter.unusedVariables false
set_option linter.unusedSimpArgs false
namespace Go.Qu
open Go Go.Ab

abbrev iI (n : Int) : IV := .d (.int .i64 n)
abbrev iB (b : Bool) : IV := .d (.bool b)
abbrev iS (z : Bool) (l : List Int) (e : List D) : IV := .d (.sl 1 z (ints l) e)

structure Sym where
  name : ByteArray
  kind : Int
  ar : Int
  wt : Int
def Sym.d (s : Sym) : D := .agg [.str s.name, .int .i64 s.kind, .int .i64 s.ar, .int .i64 s.wt]
def syms (l : List Sym) : List D := l.map Sym.d
abbrev iG (z : Bool) (l : List Sym) (e : List D) : IV := .d (.sl 4 z (syms l) e)
theorem syms_len (l : List Sym) : (syms l).length = l.length := by simp [syms]
theorem syms_at {l : List Sym} {i : Nat} {s : Sym} (h : l[i]? = some s) : (syms l)[i]? = some (.agg [.str s.name, .int .i64 s.kind, .int .i64 s.ar, .int .i64 s.wt]) := by
  simp [syms, h, Sym.d]
theorem bytes_len (b : ByteArray) : b.toList.length = b.size := by
  have h : ∀ (k i : Nat) (acc : List UInt8), b.size - i = k → (ByteArray.toList.loop b i acc).length = acc.length + k := by
    intro k
    induction k with
    | zero => intro i acc hk; unfold ByteArray.toList.loop; rw [if_neg (by omega)]; simp
    | succ k ih => intro i acc hk; unfold ByteArray.toList.loop; rw [if_pos (by omega), ih (i + 1) _ (by omega)]; simp; omega
  have := h b.size 0 [] rfl
  unfold ByteArray.toList
  rw [this]; simp
theorem wr1 {i n : Nat} (h : i < n) (hn : n ≤ 9223372036854775807) : IntKind.wrap .i64 ((i : Int) + 1) = ((i + 1 : Nat) : Int) := by
  rw [wr _ (by omega) (by omega)]; omega
theorem at_lt {α : Type} {l : List α} {i : Nat} (h : i < l.length) : ∃ s, l[i]? = some s := ⟨l[i], by simp [h]⟩
theorem lt_at {α : Type} {l : List α} {i : Nat} {s : α} (h : l[i]? = some s) : i < l.length := (List.getElem?_eq_some_iff.1 h).1

def smallB (c : Int) : Bool := decide (97 ≤ c) && decide (c ≤ 122)
def charB (c : Int) : Bool := smallB c || (decide (48 ≤ c) && decide (c ≤ 57))
def nameB (b : ByteArray) : Bool := decide (1 ≤ b.size) && decide (b.size ≤ 8) && smallB (byteAt b 0) && (List.range b.size).all fun i => charB (byteAt b i)
def numsB (s : Sym) : Bool := decide (0 ≤ s.kind) && decide (s.kind ≤ 2) && decide (0 ≤ s.ar) && decide (s.ar ≤ 3) && decide (1 ≤ s.wt) && decide (s.wt ≤ 20)
def symB (s : Sym) : Bool := nameB s.name && numsB s
def isN (n : ByteArray) (s : Sym) : Bool := s.name.toList == n.toList
def findN (l : List Sym) (n : ByteArray) : Int := match l.findIdx? (isN n) with | some i => i | none => -1
def eqSym (s : Sym) : Bool := (s.name.toList == [61]) && (s.kind == 0 && (s.ar == 2 && (s.wt == 1 && true)))
def sigAt (l : List Sym) (i : Nat) : Bool := match l[i]? with | some s => symB s && (findN l s.name == (i : Int)) | none => true
def sigB (l : List Sym) : Bool := decide (1 ≤ l.length) && decide (l.length ≤ 20) && (match l[0]? with | some s => eqSym s | none => false) && (List.range' 1 (l.length - 1)).all (sigAt l)
/-- What may be a signature. -/
structure SigOk (l : List Sym) : Prop where
  lo : 1 ≤ l.length
  hi : l.length ≤ 20
  nums : ∀ (i : Nat) s, l[i]? = some s → 0 ≤ s.kind ∧ s.kind ≤ 2 ∧ 0 ≤ s.ar ∧ s.ar ≤ 3 ∧ 1 ≤ s.wt ∧ s.wt ≤ 20
theorem sigOk {l : List Sym} (h : sigB l = true) : SigOk l := by
  unfold sigB at h
  simp only [Bool.and_eq_true, decide_eq_true_eq] at h
  obtain ⟨⟨⟨h1, h2⟩, h3⟩, h4⟩ := h
  refine ⟨h1, h2, fun i s hs => ?_⟩
  cases i with
  | zero =>
    rw [hs] at h3
    simp only [eqSym, Bool.and_eq_true, beq_iff_eq] at h3
    omega
  | succ i =>
    have hl := lt_at hs
    have h5 := List.all_eq_true.1 h4 (i + 1) (by rw [List.mem_range'_1]; omega)
    unfold sigAt at h5
    rw [hs] at h5
    simp only [symB, numsB, Bool.and_eq_true, decide_eq_true_eq] at h5
    omega
theorem findN_some {l : List Sym} {n : ByteArray} {j : Nat} {s : Sym} (hs : l[j]? = some s) (hq : isN n s = true) (hk : ∀ k, k < j → ∀ t, l[k]? = some t → isN n t = false) : findN l n = (j : Int) := by
  unfold findN
  have : l.findIdx? (isN n) = some j := by
    rw [List.findIdx?_eq_some_iff_getElem]
    have hl := lt_at hs
    refine ⟨hl, ?_, fun k hkj => ?_⟩
    · rw [List.getElem?_eq_getElem hl] at hs; simp at hs; rw [hs]; exact hq
    · have := hk k hkj l[k] (by simp)
      simpa using this
  rw [this]
theorem findN_none {l : List Sym} {n : ByteArray} (hk : ∀ k, k < l.length → ∀ t, l[k]? = some t → isN n t = false) : findN l n = -1 := by
  unfold findN
  have : l.findIdx? (isN n) = none := by
    rw [List.findIdx?_eq_none_iff]
    intro x hx
    obtain ⟨k, hk1, hk2⟩ := List.getElem_of_mem hx
    exact hk k hk1 x (by rw [List.getElem?_eq_getElem hk1, hk2])
  rw [this]

/-! ### Terms -/
/-- How many terms stand behind a code; none: it may not begin a term. -/
def arOf (g : List Sym) (c : Int) : Option Nat :=
  if c < 0 then (if -24 ≤ c then some 0 else none) else match g[c.toNat]? with
    | none => none
    | some s => if s.kind = 0 then none else some s.ar.toNat
/-- How many codes so many terms have. -/
def lenN (g : List Sym) : List Int → Nat → Option Nat
  | _, 0 => some 0
  | [], _ + 1 => none
  | c :: r, n + 1 => match arOf g c with
    | none => none
    | some k => (lenN g r (n + k)).map (· + 1)
theorem lenN_le {g : List Sym} : ∀ {r : List Int} {n k : Nat}, lenN g r n = some k → k ≤ r.length ∧ n ≤ k
  | r, 0, k, h => by cases r <;> (simp [lenN] at h; subst h; simp)
  | [], n + 1, k, h => by simp [lenN] at h
  | c :: r, n + 1, k, h => by
    unfold lenN at h
    split at h
    · cases h
    · rename_i a ha
      obtain ⟨m, hm, rfl⟩ := Option.map_eq_some_iff.1 h
      have := lenN_le hm
      simp; omega
theorem gi_drop {r : List Int} {i : Nat} (h : i < r.length) : r.drop i = gi r i :: r.drop (i + 1) := by
  rw [List.drop_eq_getElem_cons h]; simp [gi, h]
theorem drop_ge {r : List Int} {i : Nat} (h : ¬ i < r.length) : r.drop i = [] := List.drop_of_length_le (by omega)
theorem arOf_le {g : List Sym} (hg : SigOk g) {c : Int} {k : Nat} (h : arOf g c = some k) : k ≤ 3 := by
  unfold arOf at h
  split at h
  · split at h <;> simp at h; omega
  · split at h
    · cases h
    · rename_i s hs
      have := hg.nums _ _ hs
      split at h <;> simp at h; omega
def arV (g : List Sym) (c : Int) : Int := ((arOf g c).getD 0 : Nat)
theorem lenN_end {g : List Sym} {r : List Int} {i n : Nat} (h : ¬ i < r.length) (hn : 1 ≤ n) : lenN g (r.drop i) n = none := by
  rw [drop_ge h]
  obtain ⟨m, rfl⟩ : ∃ m, n = m + 1 := ⟨n - 1, by omega⟩
  rfl
theorem lenN_no {g : List Sym} {r : List Int} {i n : Nat} (h : i < r.length) (hn : 1 ≤ n) (ha : arOf g (gi r i) = none) : lenN g (r.drop i) n = none := by
  rw [gi_drop h]
  obtain ⟨m, rfl⟩ : ∃ m, n = m + 1 := ⟨n - 1, by omega⟩
  simp [lenN, ha]
theorem lenN_go {g : List Sym} {r : List Int} {i n k : Nat} (h : i < r.length) (hn : 1 ≤ n) (ha : arOf g (gi r i) = some k) : lenN g (r.drop i) n = (lenN g (r.drop (i + 1)) (n + k - 1)).map (· + 1) := by
  rw [gi_drop h]
  obtain ⟨m, rfl⟩ : ∃ m, n = m + 1 := ⟨n - 1, by omega⟩
  simp only [lenN, ha]
  rw [show m + 1 + k - 1 = m + k by omega]
/-- The place behind so many terms from a place on. -/
def skV (g : List Sym) (r : List Int) (i n : Nat) : Int := match lenN g (r.drop i) n with | some k => ((i + k : Nat) : Int) | none => 0
def skB (g : List Sym) (r : List Int) (i n : Nat) : Bool := (lenN g (r.drop i) n).isSome
/-- The terms of a row; none: it is no row of terms. -/
def parts (g : List Sym) (r : List Int) : Option (List (List Int)) :=
  if hr : r = [] then some [] else match h : lenN g r 1 with
    | none => none
    | some k => (parts g (r.drop k)).map (r.take k :: ·)
termination_by r.length
decreasing_by
  have := lenN_le h
  have : r.length ≠ 0 := fun e => hr (List.length_eq_zero_iff.1 e)
  simp; omega
theorem parts_nil (g : List Sym) : parts g [] = some [] := by rw [parts]; simp
theorem parts_none {g : List Sym} {r : List Int} (hr : r ≠ []) (h : lenN g r 1 = none) : parts g r = none := by
  rw [parts]; rw [dif_neg hr]; split
  · rfl
  · rename_i k hk; rw [h] at hk; cases hk
theorem parts_some {g : List Sym} {r : List Int} {k : Nat} (hr : r ≠ []) (h : lenN g r 1 = some k) : parts g r = (parts g (r.drop k)).map (r.take k :: ·) := by
  rw [parts]; rw [dif_neg hr]; split
  · rename_i hk; rw [h] at hk; cases hk
  · rename_i k' hk; rw [h] at hk; cases hk; rfl
/-- Where the terms begin, from a place on. -/
def begs (at_ : Nat) : List (List Int) → List Int
  | [] => []
  | t :: ts => (at_ : Int) :: begs (at_ + t.length) ts
/-- The terms of a row that may be (P2.1). -/
def rowP (g : List Sym) (r : List Int) : Option (List (List Int)) := if r.length ≤ 48 then parts g r else none
def atomB (g : List Sym) (a : List Int) : Bool :=
  match a with
  | [] => false
  | p :: r => if p < 0 then false else match g[p.toNat]? with
    | none => false
    | some s => s.kind == 0 && sigB g && (match rowP g r with | some ts => (ts.length : Int) == s.ar | none => false)
def rowB (g : List Sym) (r : List Int) : Bool := sigB g && (rowP g r).isSome
def begsM (g : List Sym) (r : List Int) : List Int := if sigB g = true then (match rowP g r with | some ts => begs 0 ts | none => []) else []
theorem begs_len : ∀ (ts : List (List Int)) (i : Nat), (begs i ts).length = ts.length
  | [], i => rfl
  | t :: ts, i => by simp [begs, begs_len ts]
theorem ints_nil : ints [] = [] := rfl
theorem ints_cons (x : Int) (l : List Int) : ints (x :: l) = .int .i64 x :: ints l := rfl
/-- Numbers that are not too many. -/
def Len (l : List Int) : Prop := l.length * 8 ≤ 140737488351232
theorem Len.lt {l : List Int} (h : Len l) : l.length < 20000000000000 := by unfold Len at h; omega

/-! ### Rows of rows -/
structure Row where
  z : Bool
  l : List Int
  e : List D
def Row.d (r : Row) : D := .sl 1 r.z (ints r.l) r.e
def rws (rs : List Row) : List D := rs.map Row.d
abbrev iR (z : Bool) (rs : List Row) (e : List D) : IV := .d (.sl 1 z (rws rs) e)
theorem rws_len (l : List Row) : (rws l).length = l.length := by simp [rws]
theorem rws_at {l : List Row} {i : Nat} {s : Row} (h : l[i]? = some s) : (rws l)[i]? = some (.sl 1 s.z (ints s.l) s.e) := by
  simp [rws, h, Row.d]
theorem rws_nil : rws [] = [] := rfl
theorem rws_cons (x : Row) (l : List Row) : rws (x :: l) = .sl 1 x.z (ints x.l) x.e :: rws l := rfl
theorem rws_append (l m : List Row) : rws (l ++ m) = rws l ++ rws m := by simp [rws]
theorem gi_at {l : List Int} {i : Nat} (h : i < l.length) : l[i]? = some (gi l i) := by simp [gi, h]
theorem ints_ext {l m : List Int} (h : l.length = m.length) (h2 : ∀ i, i < l.length → gi l i = gi m i) : l = m := by
  refine List.ext_getElem h (fun i h3 h4 => ?_)
  have := h2 i h3
  simpa [gi, h3, h4] using this
/-- Which variables stand among codes. -/
def varsFrom (l : List Int) : Nat → Nat → List Int
  | 0, _ => []
  | k + 1, v => if l.contains (-1 - (v : Int)) then (v : Int) :: varsFrom l k (v + 1) else varsFrom l k (v + 1)
def varsM (l : List Int) : List Int := varsFrom l 24 0
end Go.Qu

/- Signatures, rows of terms, atoms: what the program's and the reference's functions hand back. For every input; no condition. -/
set_option linter.unusedVariables false
set_option linter.unusedSimpArgs false
set_option maxRecDepth 100000
namespace Go.Proofs.YtmldmhbdeejcnaaDoor.Ab
open Go Go.Ab Go.Qu Go.Proofs
attribute [local simp] and_assoc
noncomputable abbrev C : Caller := Go.Ab.W F
theorem wfn {f : FuncId} {d : FnD} {args : List IV} {r : IV × List IV} {lk : List Nat} (h : codeOf code f = some d) (hl : lkFrom 0 args = lk) (h2 : evFnJ F (Go.Ab.W F) (JW F d lk) d args = some r) (hp : F.prim f = none := by rfl) : C f args = some r := W_fn hp h (by rw [hl]; exact h2)
/-! ### Signatures -/
@[simp] theorem w_small (c : Int) : C 97 [.d (.int .u8 c)] = some (iB (smallB c), [.d (.int .u8 c)]) := by
  refine wfn (lk := []) rfl rfl (fnW_way (q97 _ _ c _) ?_)
  by_cases h1 : 97 ≤ c <;> by_cases h2 : c ≤ 122 <;> simp [h1, h2, smallB]
@[simp] theorem w_called (s : ByteArray) : C 84 [.d (.str s)] = some (iB (nameB s), [.d (.str s)]) := by
  refine wfn (lk := []) rfl rfl (fnW_way (q84 _ _ s _) ?_)
  have hl := fun (h8 : s.size ≤ 8) => blk_all (F := F) (d := d84) (lk := []) (p := [1,1,0,1,0,0]) (p0 := [1,1,0,1]) (by kernel_rfl) (n := s.size) (id := 0) (st := fun i => [(0, .d (.str s)), (18, iI s.size), (19, iI i)]) (q := fun i => charB (byteAt s i)) (rt := [(2, iB false)]) (e := [(0, .d (.str s)), (18, iI s.size), (19, iI s.size)])
    (fun i hi hq => by
      refine wpQ_way (q84_l0a _ _ s _ i _) ?_
      simp only [charB, Bool.or_eq_true, Bool.and_eq_true, decide_eq_true_eq] at hq
      simp [wr1 hi (by omega), hi]
      intro h; simpa [h] using hq)
    (fun i hi hq => by
      refine wpQ_way (q84_l0a _ _ s _ i _) ?_
      simp [charB] at hq
      simp [-getElem?_pos, and_assoc, wr1 hi (by omega), hi, hq.1]
      omega)
    (wpQ_way (q84_l0a _ _ s _ s.size _) (by simp)) 0 (Nat.zero_le _)
  by_cases h0 : s.size = 0
  · have : s.toList = [] := List.length_eq_zero_iff.1 (by rw [bytes_len, h0])
    simp [this, nameB, h0]
  have h1 : ¬ s.toList = [] := fun e => h0 (by rw [← bytes_len, e]; rfl)
  by_cases h8 : s.size ≤ 8
  rotate_left
  · simp [h1, nameB, h8]; omega
  by_cases hs : smallB (byteAt s 0) = true
  rotate_left
  · have hs' : smallB (byteAt s 0) = false := by simpa using hs
    simp [h1, nameB, hs']; omega
  rcases hl h8 with ⟨h2, h3⟩ | ⟨⟨j, h2, h4, h5⟩, h3⟩
  · have h6 : nameB s = true := by
      simp only [nameB, Bool.and_eq_true, decide_eq_true_eq, hs, and_true, List.all_eq_true, List.mem_range]
      exact ⟨⟨by omega, h8⟩, fun j hj => h2 j (Nat.zero_le _) hj⟩
    simp at h3
    simp [h1, hs, h3, h6]
    omega
  · have h6 : nameB s = false := by
      simp only [nameB, Bool.and_eq_false_iff]
      right
      rw [List.all_eq_false]
      exact ⟨j, List.mem_range.2 h4, by simp [h5]⟩
    simp at h3
    simp [h1, hs, h3, h6]
    omega
@[simp] theorem w_symmay (s : Sym) : C 62 [.d (.agg [.str s.name, .int .i64 s.kind, .int .i64 s.ar, .int .i64 s.wt])] = some (iB (symB s), [.d (.agg [.str s.name, .int .i64 s.kind, .int .i64 s.ar, .int .i64 s.wt])]) := by
  refine wfn (lk := []) rfl rfl (fnW_way (q62 _ _ s.name s.kind s.ar s.wt _) ?_)
  cases hn : nameB s.name <;> simp [hn, symB, numsB]
  by_cases h1 : 0 ≤ s.kind <;> by_cases h2 : s.kind ≤ 2 <;> by_cases h3 : 0 ≤ s.ar <;> by_cases h4 : s.ar ≤ 3 <;> by_cases h5 : 1 ≤ s.wt <;> by_cases h6 : s.wt ≤ 20 <;> simp [h1, h2, h3, h4, h5, h6] <;> omega
theorem w_find {g : List Sym} (hg : g.length ≤ 20) (z : Bool) (e : List D) (n : ByteArray) : C 63 [iG z g e, .d (.str n)] = some (iI (findN g n), [iG z g e, .d (.str n)]) := by
  refine wfn (lk := []) rfl rfl (fnW_way (q63 _ _ z (syms g) e n _) ?_)
  have hl := blk_find (F := F) (d := d63) (lk := []) (p := [1,0,1,0,0]) (p0 := [1,0,1]) (by kernel_rfl) (n := g.length) (id := 0) (st := fun i => [(0, iG z g e), (1, .d (.str n)), (7, iI g.length), (8, iI i)]) (q := fun i => match g[i]? with | some s => isN n s | none => false) (rt := fun i => [(4, iI i)]) (e := [(0, iG z g e), (1, .d (.str n)), (7, iI g.length), (8, iI g.length)])
    (fun i hi hq => by
      refine wpQ_way (q63_l0a _ _ z (syms g) e n _ i _) ?_
      obtain ⟨s, hs⟩ := at_lt hi
      simp [hs, isN] at hq
      simp [-getElem?_pos, and_assoc, wr1 hi (by omega), hi, syms_at hs, hq])
    (fun i hi hq => by
      refine wpQ_way (q63_l0a _ _ z (syms g) e n _ i _) ?_
      obtain ⟨s, hs⟩ := at_lt hi
      simp [hs, isN] at hq
      simp [-getElem?_pos, and_assoc, wr1 hi (by omega), hi, syms_at hs, hq])
    (wpQ_way (q63_l0a _ _ z (syms g) e n _ g.length _) (by simp)) 0 (Nat.zero_le _)
  rcases hl with ⟨h2, h3⟩ | ⟨j, h1, h2, h4, h5, h3⟩
  · rw [findN_none (fun k hk t ht => by have := h2 k (Nat.zero_le _) hk; rw [ht] at this; exact this)]
    simp at h3
    simp [syms_len, h3]
  · obtain ⟨s, hs⟩ := at_lt h2
    rw [findN_some hs (by rw [hs] at h4; exact h4) (fun k hk t ht => by have := h5 k (Nat.zero_le _) hk; rw [ht] at this; exact this)]
    simp at h3
    simp [syms_len, h3]
theorem w_may (z : Bool) (g : List Sym) (e : List D) : C 33 [iG z g e] = some (iB (sigB g), [iG z g e]) := by
  refine wfn (lk := []) rfl rfl (fnW_way (q33 _ _ z (syms g) e _) ?_)
  by_cases h1 : 1 ≤ g.length
  rotate_left
  · simp [syms_len, sigB, h1]; omega
  by_cases h20 : g.length ≤ 20
  rotate_left
  · simp [syms_len, sigB, h20]; omega
  obtain ⟨s0, hs0⟩ := at_lt (show 0 < g.length by omega)
  have e1 : ¬ ((g.length : Int) < 1) := by omega
  have e2 : ¬ (20 < (g.length : Int)) := by omega
  have hl := blk_all (F := F) (d := d33) (lk := []) (p := [1,1,0,1,0,0]) (p0 := [1,1,0,1]) (by kernel_rfl) (n := g.length) (id := 0) (st := fun i => [(0, iG z g e), (3, iI i)]) (q := sigAt g) (rt := [(2, iB false)]) (e := [(0, iG z g e), (3, iI g.length)])
    (fun i hi hq => by
      refine wpQ_way (q33_l0a _ _ z (syms g) e i _) ?_
      obtain ⟨s, hs⟩ := at_lt hi
      simp [sigAt, hs] at hq
      simp [-getElem?_pos, and_assoc, wr1 hi (by omega), hi, syms_len, syms_at hs, hq, w_find h20])
    (fun i hi hq => by
      refine wpQ_way (q33_l0a _ _ z (syms g) e i _) ?_
      obtain ⟨s, hs⟩ := at_lt hi
      simp [sigAt, hs] at hq
      cases hm : symB s
      · simp [-getElem?_pos, and_assoc, wr1 hi (by omega), hi, syms_len, syms_at hs, hm]
      · simp [-getElem?_pos, and_assoc, wr1 hi (by omega), hi, syms_len, syms_at hs, hm, w_find h20, hq hm])
    (wpQ_way (q33_l0a _ _ z (syms g) e g.length _) (by simp [syms_len])) 1 h1
  have e0 : "=".toUTF8.toList = [61] := by decide +kernel
  have hq : (s0.name.toList == "=".toUTF8.toList && (s0.kind == 0 && (s0.ar == 2 && (s0.wt == 1 && true)))) = eqSym s0 := by rw [e0]; rfl
  simp only [syms_len, syms_at hs0, condW_d, e1, e2, if_false, gt_iff_lt]
  simp only [Option.some.injEq, D.agg.injEq, List.cons.injEq, D.str.injEq, D.int.injEq, true_and, and_true]
  refine ⟨s0.name, s0.kind, s0.ar, s0.wt, ⟨rfl, rfl, rfl, rfl⟩, ?_⟩
  rw [hq]
  cases h0 : eqSym s0
  · simp [sigB, h1, h20, hs0, h0]
  rcases hl with ⟨h2, h3⟩ | ⟨⟨j, h2, h4, h5⟩, h3⟩
  · have h6 : sigB g = true := by
      simp only [sigB, h1, h20, hs0, h0, Bool.and_eq_true, decide_eq_true_eq, List.all_eq_true, List.mem_range'_1, true_and]
      exact fun j hj => h2 j hj.1 (by omega)
    simp at h3
    simp [h3, h6]
  · have h6 : sigB g = false := by
      simp only [sigB, Bool.and_eq_false_iff]
      right
      rw [List.all_eq_false]
      exact ⟨j, by rw [List.mem_range'_1]; omega, by simp [h5]⟩
    simp at h3
    simp [h3, h6]
/-! ### The reference's -/
end Go.Proofs.YtmldmhbdeejcnaaDoor.Ab

/- Rows of terms, atoms: what the program's and the reference's functions hand back. For every input; no condition. -/
set_option linter.unusedVariables false
set_option linter.unusedSimpArgs false
set_option maxRecDepth 100000
namespace Go.Proofs.YtmldmhbdeejcnaaDoor.Ab
open Go Go.Ab Go.Qu Go.Proofs
attribute [local simp] and_assoc
theorem w_number (c : Int) : C 68 [iI c] = some (iI (IntKind.wrap .i64 (-1 - c)), [iI c]) :=
  wfn (lk := []) rfl rfl (fnW_way (q68 _ _ c _) (by simp))
theorem w_number23 : C 68 [iI 23] = some (iI (-24), [iI 23]) := by rw [w_number, wr _ (by omega) (by omega)]; rfl
theorem w_args {g : List Sym} (hg : SigOk g) (z : Bool) (e : List D) (c : Int) : C 80 [iG z g e, iI c] = some (.tup [iI (arV g c), iB (arOf g c).isSome], [iG z g e, iI c]) := by
  refine wfn (lk := []) rfl rfl (fnW_way (q80 _ _ z (syms g) e c _) ?_)
  by_cases h0 : c < 0
  · by_cases h1 : -24 ≤ c
    · simp [h0, h1, arV, arOf, w_number23]
    · simp [h0, h1, arV, arOf, w_number23]; omega
  by_cases h2 : c < g.length
  · obtain ⟨s, hs⟩ := at_lt (l := g) (i := c.toNat) (by omega)
    have hn := hg.nums _ _ hs
    have h3 : 0 ≤ c := by omega
    have h4 : ¬ (g.length : Int) ≤ c := by omega
    by_cases hk : s.kind = 0
    · simp [-getElem?_pos, h0, h2, h3, h4, syms_len, syms_at hs, arV, arOf, hs, hk]
    · simp [-getElem?_pos, h0, h2, h3, h4, syms_len, syms_at hs, arV, arOf, hs, hk]; omega
  · have hs : g[c.toNat]? = none := List.getElem?_eq_none (by omega)
    have h4 : (g.length : Int) ≤ c := by omega
    simp [h0, h4, syms_len, arV, arOf, hs]
theorem l_skip {g : List Sym} (hg : SigOk g) (z z' : Bool) (e e' : List D) {r : List Int} (hr : r.length < 20000000000000) : ∀ x : Nat × Nat, (1 ≤ x.2 ∧ x.2 ≤ 3 * x.1 + 1 ∧ x.1 ≤ r.length) →
    ∃ o, evG (JW F d57 []) d57 [1, 0] 0 [(0, iG z g e), (1, iS z' r e'), (2, iI x.1), (8, iI x.2)] = some o ∧ o = .ret [(6, iI (skV g r x.1 x.2)), (7, iB (skB g r x.1 x.2))] :=
  label_rule (F := F) (d := d57) (lk := []) (p := [1, 0]) (fun _ => 0) (fun (x : Nat × Nat) => [(0, iG z g e), (1, iS z' r e'), (2, iI x.1), (8, iI x.2)]) _ (fun x => r.length - x.1) (fun x o => o = .ret [(6, iI (skV g r x.1 x.2)), (7, iB (skB g r x.1 x.2))]) (fun _ _ => by decide +kernel) (fun x hx => by
    obtain ⟨i, n⟩ := x
    obtain ⟨h1, h2, h3⟩ := hx
    dsimp only at h1 h2 h3 ⊢
    by_cases hi : i < r.length
    · have hi' : ¬ (r.length : Int) ≤ i := by omega
      cases ha : arOf g (gi r i) with
      | none =>
        refine .inr ⟨_, wpR_way (q57_l1000000a _ _ z (syms g) e z' (ints r) e' i n _) ?_, rfl, rfl⟩
        simp [-getElem?_pos, ints_len, hi', Go.Ab.ints_at hi, w_args hg, ha, skV, skB, lenN_no hi h1 ha]
      | some k =>
        have hk := arOf_le hg ha
        have hw1 : IntKind.wrap .i64 ((k : Int) - 1) = (k : Int) - 1 := wr _ (by omega) (by omega)
        have hw2 : IntKind.wrap .i64 ((n : Int) + ((k : Int) - 1)) = ((n + k - 1 : Nat) : Int) := by rw [wr _ (by omega) (by omega)]; omega
        have hw3 := wr1 hi (by omega)
        by_cases hn : 0 < n + k - 1
        · refine .inl ⟨(i + 1, n + k - 1), wpR_way (q57_l1000000a _ _ z (syms g) e z' (ints r) e' i n _) ?_, ⟨by dsimp only; omega, by dsimp only; omega, by dsimp only; omega⟩, by dsimp only; omega, fun o ho => ?_⟩
          · simp [-getElem?_pos, -Int.natCast_add, ints_len, hi', Go.Ab.ints_at hi, w_args hg, ha, arV, hw1, hw2, hw3, hn]
          · rw [ho]
            simp only [skV, skB, lenN_go hi h1 ha]
            cases lenN g (r.drop (i + 1)) (n + k - 1) <;> simp; omega
        · refine .inr ⟨_, wpR_way (q57_l1000000a _ _ z (syms g) e z' (ints r) e' i n _) ?_, rfl, rfl⟩
          have hz : n + k - 1 = 0 := by omega
          have hl : lenN g (r.drop i) n = some 1 := by rw [lenN_go hi h1 ha, hz]; simp [lenN]
          simp [-getElem?_pos, -Int.natCast_add, ints_len, hi', Go.Ab.ints_at hi, w_args hg, ha, arV, hw1, hw2, hw3, hz, skV, skB, hl]
    · have hi' : (r.length : Int) ≤ i := by omega
      refine .inr ⟨_, wpR_way (q57_l1000000a _ _ z (syms g) e z' (ints r) e' i n _) ?_, rfl, rfl⟩
      simp [ints_len, hi', skV, skB, lenN_end hi h1])
theorem w_skip {g : List Sym} (hg : SigOk g) (z z' : Bool) (e e' : List D) {r : List Int} (hr : r.length < 20000000000000) (i : Nat) : C 57 [iG z g e, iS z' r e', iI i] = some (.tup [iI (skV g r i 1), iB (skB g r i 1)], [iG z g e, iS z' r e', iI i]) := by
  refine wfn (lk := []) rfl rfl (fnW_way (q57 _ _ z (syms g) e z' (ints r) e' i _) ?_)
  by_cases hi : i < r.length
  · have hi' : ¬ (r.length : Int) ≤ i := by omega
    cases ha : arOf g (gi r i) with
    | none => simp [-getElem?_pos, ints_len, hi', Go.Ab.ints_at hi, w_args hg, ha, skV, skB, lenN_no hi (Nat.le_refl 1) ha]
    | some k =>
      have hk := arOf_le hg ha
      have hw1 : IntKind.wrap .i64 ((k : Int) - 1) = (k : Int) - 1 := wr _ (by omega) (by omega)
      have hw2 : IntKind.wrap .i64 (1 + ((k : Int) - 1)) = (k : Int) := by rw [wr _ (by omega) (by omega)]; omega
      have hw3 := wr1 hi (by omega)
      by_cases hn : 0 < k
      · obtain ⟨o, h1, rfl⟩ := l_skip hg z z' e e' hr (i + 1, k) ⟨hn, by dsimp only; omega, hi⟩
        have hl := lenN_go hi (Nat.le_refl 1) ha
        rw [show 1 + k - 1 = k by omega] at hl
        have e1 : skV g r i 1 = skV g r (i + 1) k := by
          simp only [skV, hl]
          cases lenN g (r.drop (i + 1)) k <;> simp; omega
        have e2 : skB g r i 1 = skB g r (i + 1) k := by simp [skB, hl]
        simp [-getElem?_pos, -Int.natCast_add, ints_len, hi', Go.Ab.ints_at hi, w_args hg, ha, arV, hw1, hw2, hw3, hn, h1, e1, e2]
      · have hz : k = 0 := by omega
        subst hz
        have hl : lenN g (r.drop i) 1 = some 1 := by rw [lenN_go hi (Nat.le_refl 1) ha]; simp [lenN]
        have hw0 : IntKind.wrap .i64 (-1) = -1 := wr _ (by omega) (by omega)
        have hw4 : IntKind.wrap .i64 0 = 0 := wr _ (by omega) (by omega)
        simp [-getElem?_pos, -Int.natCast_add, ints_len, hi', Go.Ab.ints_at hi, w_args hg, ha, arV, hw0, hw4, hw3, skV, skB, hl]
  · have hi' : (r.length : Int) ≤ i := by omega
    simp [ints_len, hi', skV, skB, lenN_end hi (Nat.le_refl 1)]
theorem l_begins {g : List Sym} (hg : sigB g = true) (z z' : Bool) (e e' : List D) {r : List Int} (hr : r.length ≤ 48) : ∀ x : List Int × Nat, (x.1.length ≤ x.2 ∧ x.2 ≤ r.length ∧ x.1 ≠ []) →
    ∃ o, evG (JW F d56 []) d56 [1, 0] 0 [(0, iG z g e), (1, iS z' r e'), (6, .own false 3 1 (ints x.1)), (7, iI x.2)] = some o ∧
      match parts g (r.drop x.2) with | some ts => o = .ret [(4, .own false 3 1 (ints (x.1 ++ begs x.2 ts))), (5, iB true)] | none => o = .ret [(4, .own true 3 1 []), (5, iB false)] :=
  label_rule (F := F) (d := d56) (lk := []) (p := [1, 0]) (fun _ => 0) (fun (x : List Int × Nat) => [(0, iG z g e), (1, iS z' r e'), (6, .own false 3 1 (ints x.1)), (7, iI x.2)]) _ (fun x => r.length - x.2) (fun x o => match parts g (r.drop x.2) with | some ts => o = .ret [(4, .own false 3 1 (ints (x.1 ++ begs x.2 ts))), (5, iB true)] | none => o = .ret [(4, .own true 3 1 []), (5, iB false)]) (fun _ _ => by decide +kernel) (fun x hx => by
    obtain ⟨acc, i⟩ := x
    obtain ⟨h1, h2, h3⟩ := hx
    dsimp only at h1 h2 h3 ⊢
    by_cases hi : i = r.length
    · refine .inr ⟨.ret [(4, .own false 3 1 (ints acc)), (5, iB true)], wpR_way (q56_l1000000a _ _ z (syms g) e z' (ints r) e' false (ints acc) i _) ?_, rfl, ?_⟩
      · simp [ints_len, hi]
      · rw [List.drop_of_length_le (by omega), parts_nil]; simp [begs]
    · have hne : r.drop i ≠ [] := by simp; omega
      have hsk := w_skip (sigOk hg) z z' e e' (r := r) (by omega) i
      have hi' : ¬ ((i : Int) = r.length) := by omega
      cases hl : lenN g (r.drop i) 1 with
      | none =>
        refine .inr ⟨.ret [(4, .own true 3 1 []), (5, iB false)], wpR_way (q56_l1000000a _ _ z (syms g) e z' (ints r) e' false (ints acc) i _) ?_, rfl, ?_⟩
        · simp [ints_len, hi', hsk, skV, skB, hl]
        · rw [parts_none hne hl]
      | some k =>
        have hle := lenN_le hl
        simp at hle
        refine .inl ⟨(acc ++ [(i : Int)], i + k), wpR_way (q56_l1000000a _ _ z (syms g) e z' (ints r) e' false (ints acc) i _) ?_, ⟨by simp; omega, by dsimp only; omega, by simp⟩, by dsimp only; omega, fun o ho => ?_⟩
        · simp [ints_len, hi', hsk, skV, skB, hl, ints_append, ints_cons, ints_nil]
          omega
        · rw [parts_some hne hl]
          rw [List.drop_drop]
          dsimp only at ho
          cases hp : parts g (r.drop (i + k)) with
          | none => rw [hp] at ho; exact ho
          | some ts =>
            rw [hp] at ho
            simp only [Option.map_some] at ho ⊢
            rw [ho]
            simp [begs, List.length_take]
            rw [show min k (r.length - i) = k by omega])
theorem w_begins (z z' : Bool) (g : List Sym) (e e' : List D) (r : List Int) : C 56 [iG z g e, iS z' r e'] = some (.tup [.own (begsM g r).isEmpty 3 1 (ints (begsM g r)), iB (rowB g r)], [iG z g e, iS z' r e']) := by
  refine wfn (lk := []) rfl rfl (fnW_way (q56 _ _ z (syms g) e z' (ints r) e' _) ?_)
  have hm := w_may z g e
  cases hg : sigB g
  · simp [hm, hg, begsM, rowB, ints_nil]
  by_cases hr : r.length ≤ 48
  rotate_left
  · have e1 : 48 < (r.length : Int) := by omega
    simp [hm, hg, begsM, rowB, ints_nil, rowP, hr, e1, ints_len]
  have e1 : ¬ 48 < (r.length : Int) := by omega
  by_cases h0 : r = []
  · subst h0
    simp [hm, hg, begsM, rowB, ints_nil, rowP, parts_nil, begs]
  have h0' : ¬ r.length = 0 := fun e => h0 (List.length_eq_zero_iff.1 e)
  have h0'' : ¬ ((0 : Int) = r.length) := by omega
  have hsk : C 57 [iG z g e, iS z' r e', iI 0] = some (.tup [iI (skV g r 0 1), iB (skB g r 0 1)], [iG z g e, iS z' r e', iI 0]) := w_skip (sigOk hg) z z' e e' (r := r) (by omega) 0
  cases hl : lenN g r 1 with
  | none =>
    simp [hm, hg, begsM, rowB, ints_nil, rowP, hr, e1, ints_len, h0'', hsk, skV, skB, hl, parts_none h0 hl]
  | some k =>
    have hle := lenN_le hl
    obtain ⟨o, h1, h2⟩ := l_begins hg z z' e e' hr ([0], k) ⟨by simp; omega, hle.1, by simp⟩
    dsimp only at h2
    simp only [ints_cons, ints_nil] at h1
    have hp := parts_some h0 hl
    cases hq : parts g (r.drop k) with
    | none =>
      rw [hq] at h2 hp
      subst h2
      simp [hm, hg, begsM, rowB, ints_nil, rowP, hr, e1, ints_len, h0'', hsk, skV, skB, hl, hp, h1]
    | some ts =>
      rw [hq] at h2 hp
      subst h2
      simp [hm, hg, begsM, rowB, ints_nil, rowP, hr, e1, ints_len, h0'', hsk, skV, skB, hl, hp, h1, begs, Nat.min_eq_left hle.1]
theorem w_isatom (z z' : Bool) (g : List Sym) (e e' : List D) (a : List Int) : C 30 [iG z g e, iS z' a e'] = some (iB (atomB g a), [iG z g e, iS z' a e']) := by
  refine wfn (lk := []) rfl rfl (fnW_way (q30 _ _ z (syms g) e z' (ints a) e' _) ?_)
  cases a with
  | nil => simp [ints_nil, atomB]
  | cons p r =>
    have e0 : ¬ ((r.length : Int) + 1 = 0) := by omega
    by_cases h0 : p < 0
    · have h3 : ¬ 0 ≤ p := by omega
      simp [ints_cons, ints_len, atomB, h0, e0, h3]
    by_cases h2 : p < g.length
    · obtain ⟨s, hs⟩ := at_lt (l := g) (i := p.toNat) (by omega)
      have h3 : 0 ≤ p := by omega
      have h4 : ¬ (g.length : Int) ≤ p := by omega
      have e1 : (1 : Int) ≤ (r.length : Int) + 1 := by omega
      have hb := w_begins z z' g e [] r
      by_cases hk : s.kind = 0
      · cases hg : sigB g
        · simp [-getElem?_pos, List.getElem?_cons_zero, ints_cons, ints_len, atomB, h0, e0, e1, h2, h3, h4, syms_len, syms_at hs, hs, hk, hb, hg, rowB]
        · cases hp : rowP g r with
          | none => simp [-getElem?_pos, List.getElem?_cons_zero, ints_cons, ints_len, atomB, h0, e0, e1, h2, h3, h4, syms_len, syms_at hs, hs, hk, hb, hg, rowB, hp]
          | some ts =>
            by_cases hc : (ts.length : Int) = s.ar
            · simp [-getElem?_pos, List.getElem?_cons_zero, ints_cons, ints_len, atomB, h0, e0, e1, h2, h3, h4, syms_len, syms_at hs, hs, hk, hb, hg, rowB, hp, begsM, begs_len, hc]
            · simp [-getElem?_pos, List.getElem?_cons_zero, ints_cons, ints_len, atomB, h0, e0, e1, h2, h3, h4, syms_len, syms_at hs, hs, hk, hb, hg, rowB, hp, begsM, begs_len, hc]
      · simp [-getElem?_pos, List.getElem?_cons_zero, ints_cons, ints_len, atomB, h0, e0, e1, h2, h3, h4, syms_len, syms_at hs, hs, hk]
    · have hs : g[p.toNat]? = none := List.getElem?_eq_none (by omega)
      have h4 : (g.length : Int) ≤ p := by omega
      simp [ints_cons, ints_len, atomB, h0, h2, e0, h4, syms_len, hs]
end Go.Proofs.YtmldmhbdeejcnaaDoor.Ab

/- Rows of numbers: the same, copied, their least, their variables. For every input; no condition. -/
set_option linter.unusedVariables false
set_option linter.unusedSimpArgs false
set_option maxRecDepth 100000
namespace Go.Proofs.YtmldmhbdeejcnaaDoor.Ab
open Go Go.Ab Go.Qu Go.Proofs
attribute [local simp] and_assoc
@[simp] theorem w_num (c : Int) : C 11 [iI c] = some (iI c, [iI c]) :=
  wfn (lk := []) rfl rfl (fnW_way (q11 _ _ c _) (by simp))
theorem w_equal {a : List Int} (ha : Len a) (b : List Int) (z z' : Bool) (e e' : List D) : C 31 [iS z a e, iS z' b e'] = some (iB (decide (a = b)), [iS z a e, iS z' b e']) := by
  refine wfn (lk := []) rfl rfl (fnW_way (q31 _ _ z (ints a) e z' (ints b) e' _) ?_)
  have hal := ha.lt
  by_cases hl : a.length = b.length
  rotate_left
  · have e1 : ¬ (a.length : Int) = b.length := by omega
    have e2 : ¬ a = b := fun h => hl (by rw [h])
    simp [ints_len, e1, e2]
  rcases blk_all (F := F) (d := d31) (lk := []) (p := [1,1,0,1,0,0]) (p0 := [1,1,0,1]) (by kernel_rfl) (n := a.length) (id := 0) (st := fun i => [(0, iS z a e), (1, iS z' b e'), (12, iI a.length), (13, iI i)]) (q := fun i => gi a i == gi b i) (rt := [(4, iB false)]) (e := [(0, iS z a e), (1, iS z' b e'), (12, iI a.length), (13, iI a.length)])
    (fun i hi hq => wpQ_way (q31_l0a _ _ z (ints a) e z' (ints b) e' _ i _) (by simp at hq; simp [-getElem?_pos, wr1 hi (by omega), hi, Go.Ab.ints_at hi, Go.Ab.ints_at (hl ▸ hi), hq]))
    (fun i hi hq => wpQ_way (q31_l0a _ _ z (ints a) e z' (ints b) e' _ i _) (by simp at hq; simp [-getElem?_pos, hi, Go.Ab.ints_at hi, Go.Ab.ints_at (hl ▸ hi), hq]))
    (wpQ_way (q31_l0a _ _ z (ints a) e z' (ints b) e' _ a.length _) (by simp)) 0 (Nat.zero_le _) with ⟨h2, h3⟩ | ⟨⟨j, h2, h4, h5⟩, h3⟩
  · have hab : a = b := ints_ext hl (fun i hi => by simpa using h2 i (Nat.zero_le _) hi)
    simp at h3
    simp [-Bool.exists_bool, ints_len, hab]
    rw [hab] at h3
    simp [-Bool.exists_bool, h3]
  · have hab : ¬ a = b := fun h => by rw [h] at h5; simp at h5
    simp at h3
    simp [ints_len, hl, hab]
    rw [hl] at h3
    simp [h3]
/-- Rows that are new. -/
def fresh (r : Row) : Row := ⟨false, r.l, []⟩
theorem w_in {a : List Int} (ha : Len a) (z : Bool) (e : List D) (v : Nat) (hv : v ≤ 1000000) : C 93 [iS z a e, iI v] = some (iB (a.contains (-1 - (v : Int))), [iS z a e, iI v]) := by
  have hal := ha.lt
  have hw : IntKind.wrap .i64 (-1 - (v : Int)) = -1 - (v : Int) := wr _ (by omega) (by omega)
  refine wfn (lk := []) rfl rfl (fnW_way (q93 _ _ z (ints a) e v _) ?_)
  rcases blk_find (F := F) (d := d93) (lk := []) (p := [1,0,1,0,0]) (p0 := [1,0,1]) (by kernel_rfl) (n := a.length) (id := 0) (st := fun i => [(0, iS z a e), (1, iI v), (5, iI i)]) (q := fun i => gi a i == -1 - (v : Int)) (rt := fun _ => [(4, iB true)]) (e := [(0, iS z a e), (1, iI v), (5, iI a.length)])
    (fun i hi hq => wpQ_way (q93_l0a _ _ z (ints a) e v i _) (by simp at hq; simp [-getElem?_pos, ints_len, wr1 hi (by omega), hi, Go.Ab.ints_at hi, hw, hq]))
    (fun i hi hq => wpQ_way (q93_l0a _ _ z (ints a) e v i _) (by simp at hq; simp [-getElem?_pos, ints_len, hi, Go.Ab.ints_at hi, hw, hq]))
    (wpQ_way (q93_l0a _ _ z (ints a) e v a.length _) (by simp [ints_len])) 0 (Nat.zero_le _) with ⟨h2, h3⟩ | ⟨j, h1, h2, h4, h5, h3⟩
  · have hc : a.contains (-1 - (v : Int)) = false := by
      rw [List.contains_eq_mem, decide_eq_false_iff_not]
      intro hm
      obtain ⟨i, hi, he⟩ := List.getElem_of_mem hm
      have := h2 i (Nat.zero_le _) hi
      simp [gi, hi] at this
      exact this he
    simp at h3
    simp only [hc]
    simp [h3]
  · have hc : a.contains (-1 - (v : Int)) = true := by
      rw [List.contains_eq_mem, decide_eq_true_iff]
      simp [gi, h2] at h4
      rw [← h4]
      exact List.getElem_mem h2
    simp at h3
    simp only [hc]
    simp [h3]
theorem w_varsof {a : List Int} (ha : Len a) (z : Bool) (e : List D) : C 77 [iS z a e] = some (.own (varsM a).isEmpty 3 1 (ints (varsM a)), [iS z a e]) := by
  refine wfn (lk := []) rfl rfl (fnW_way (q77 _ _ z (ints a) e _) ?_)
  have h1 := fun x hx => blk_fun (F := F) (d := d77) (lk := []) (p := [1,1,0,1,0,0]) (p0 := [1,1,0,1]) (id := 0) (by kernel_rfl) (st := fun (x : List Int × Nat) => [(0, iS z a e), (3, .own x.1.isEmpty 3 1 (ints x.1)), (4, iI x.2)]) (I := fun x => x.2 ≤ 24 ∧ x.1.length ≤ x.2) (μ := fun x => 24 - x.2)
    (res := fun x => .norm [(0, iS z a e), (3, .own (x.1 ++ varsFrom a (24 - x.2) x.2).isEmpty 3 1 (ints (x.1 ++ varsFrom a (24 - x.2) x.2))), (4, iI 24)])
    (fun x hx => by
      obtain ⟨acc, i⟩ := x
      obtain ⟨hx1, hx2⟩ := hx
      dsimp only at hx1 hx2
      by_cases h : i ≤ 23
      · have h' : (i : Int) ≤ 23 := by omega
        have hw : IntKind.wrap .i64 ((i : Int) + 1) = ((i + 1 : Nat) : Int) := by rw [wr _ (by omega) (by omega)]; omega
        have hin := w_in ha z e i (by omega)
        have e1 : 24 - i = (24 - (i + 1)) + 1 := by omega
        cases hc : a.contains (-1 - (i : Int)) with
        | true =>
          rw [hc] at hin
          refine .go (acc ++ [(i : Int)], i + 1) (wpQ_way (q77_l0a _ _ z (ints a) e _ _ i _) ?_) ⟨by dsimp only; omega, by simp; omega⟩ (by dsimp only; omega) ?_
          · simp [-Int.natCast_add, ints_len, h', hin, hw, ints_append, ints_cons, ints_nil]
            omega
          · dsimp only
            rw [e1, varsFrom, hc]; simp
        | false =>
          rw [hc] at hin
          refine .go (acc, i + 1) (wpQ_way (q77_l0a _ _ z (ints a) e _ _ i _) ?_) ⟨by dsimp only; omega, by dsimp only; omega⟩ (by dsimp only; omega) ?_
          · simp [-Int.natCast_add, ints_len, h', hin, hw]
          · dsimp only
            rw [e1, varsFrom, hc]; simp
      · have e1 : i = 24 := by omega
        subst e1
        refine .stop (.exit 0 [(0, iS z a e), (3, .own acc.isEmpty 3 1 (ints acc)), (4, iI 24)]) (wpQ_way (q77_l0a _ _ z (ints a) e _ _ _ _) ?_) rfl ?_
        · simp
        · simp [blkO, varsFrom]) x hx
  have h2 : evP F (Go.Ab.W F) (JW F d77 []) d77 [] [1,1,0,1] [(0, iS z a e), (3, .own true 3 1 []), (4, iI 0)] = _ := h1 ([], 0) ⟨Nat.zero_le _, Nat.le_refl _⟩
  simp only [List.nil_append, Nat.sub_zero] at h2
  simp [h2, varsM]
end Go.Proofs.YtmldmhbdeejcnaaDoor.Ab

/- Tables of facts: what may be one, where a fact stands. Plain lists; no condition. -/
set_option linter.unusedVariables false
set_option linter.unusedSimpArgs false
namespace Go.Qu
open Go Go.Ab

def hashF (h : Int) : List Int → Int
  | [] => h
  | c :: a => hashF ((h * 31 + c + 1) % 1009) a
theorem gi_mem {a : List Int} {i : Nat} (h : i < a.length) : gi a i ∈ a := by
  simp only [gi, List.getD_eq_getElem?_getD, List.getElem?_eq_getElem h, Option.getD_some]; exact List.getElem_mem h
theorem lenN_codes {g : List Sym} : ∀ {r : List Int} {n k : Nat}, lenN g r n = some k → ∀ c ∈ r.take k, (arOf g c).isSome = true
  | r, 0, k, h, c, hc => by cases r <;> (simp [lenN] at h; subst h; simp at hc)
  | [], n + 1, k, h, c, hc => by simp [lenN] at h
  | x :: r, n + 1, k, h, c, hc => by
    unfold lenN at h
    split at h
    · cases h
    · rename_i a ha
      obtain ⟨m, hm, rfl⟩ := Option.map_eq_some_iff.1 h
      rw [List.take_succ_cons] at hc
      rcases List.mem_cons.1 hc with rfl | hc
      · rw [ha]; rfl
      · exact lenN_codes hm c hc
theorem parts_codes {g : List Sym} : ∀ (n : Nat) (r : List Int) {ts : List (List Int)}, r.length ≤ n → parts g r = some ts → ∀ c ∈ r, (arOf g c).isSome = true
  | n, [], ts, hn, h, c, hc => by simp at hc
  | 0, x :: r, ts, hn, h, c, hc => by simp at hn
  | n + 1, x :: r, ts, hn, h, c, hc => by
    cases hl : lenN g (x :: r) 1 with
    | none => rw [parts_none (by simp) hl] at h; cases h
    | some k =>
      rw [parts_some (by simp) hl] at h
      obtain ⟨us, h1, rfl⟩ := Option.map_eq_some_iff.1 h
      have h2 := lenN_le hl
      have hsplit : c ∈ (x :: r).take k ∨ c ∈ (x :: r).drop k := by
        rw [← List.mem_append, List.take_append_drop]; exact hc
      rcases hsplit with hc | hc
      · exact lenN_codes hl c hc
      · exact parts_codes n _ (by simp at hn ⊢; omega) h1 c hc
theorem arOf_lt {g : List Sym} {c : Int} (h : (arOf g c).isSome = true) : -24 ≤ c ∧ c < g.length := by
  unfold arOf at h
  split at h
  · split at h
    · omega
    · cases h
  · split at h
    · cases h
    · rename_i s hs
      have := lt_at hs
      omega
/-- The codes of an atom. -/
theorem atom_codes {g : List Sym} {a : List Int} (h : atomB g a = true) : a.length ≤ 49 ∧ (∀ c ∈ a, -24 ≤ c ∧ c < g.length) ∧ g.length ≤ 20 := by
  cases a with
  | nil => simp [atomB] at h
  | cons p r =>
    simp only [atomB] at h
    split at h
    · cases h
    · rename_i hp
      split at h
      · cases h
      · rename_i s hs
        simp only [Bool.and_eq_true] at h
        obtain ⟨⟨h1, h2⟩, h3⟩ := h
        have hl := lt_at hs
        have hg := sigOk h2
        unfold rowP at h3
        by_cases hr : r.length ≤ 48
        · rw [if_pos hr] at h3
          cases hps : parts g r with
          | none => rw [hps] at h3; cases h3
          | some ts =>
            refine ⟨by simp; omega, fun c hc => ?_, hg.hi⟩
            rcases List.mem_cons.1 hc with rfl | hc
            · omega
            · exact arOf_lt (parts_codes _ r (Nat.le_refl _) hps c hc)
        · rw [if_neg hr] at h3; cases h3
/-! ### Where a fact stands -/
/-! ### The reference's words -/
/-! ### For the walks -/
def bls (l : List Bool) : List D := l.map D.bool
end Go.Qu

/- Literals, clauses: what may be, what they weigh. Plain lists; no condition. -/
set_option linter.unusedVariables false
set_option linter.unusedSimpArgs false
namespace Go.Qu
open Go Go.Ab

structure LitR where
  neg : Bool
  r : Row
def LitR.d (l : LitR) : D := .agg [.bool l.neg, .sl 1 l.r.z (ints l.r.l) l.r.e]
def lits (ls : List LitR) : List D := ls.map LitR.d
abbrev iL (z : Bool) (ls : List LitR) (e : List D) : IV := .d (.sl 2 z (lits ls) e)
abbrev iLit (b : Bool) (z : Bool) (l : List Int) (e : List D) : IV := .d (.agg [.bool b, .sl 1 z (ints l) e])
theorem lits_len (l : List LitR) : (lits l).length = l.length := by simp [lits]
theorem lits_at {l : List LitR} {i : Nat} {s : LitR} (h : l[i]? = some s) : (lits l)[i]? = some (.agg [.bool s.neg, .sl 1 s.r.z (ints s.r.l) s.r.e]) := by simp [lits, h, LitR.d]
theorem lits_nil : lits [] = [] := rfl
theorem lits_cons (x : LitR) (l : List LitR) : lits (x :: l) = .agg [.bool x.neg, .sl 1 x.r.z (ints x.r.l) x.r.e] :: lits l := rfl
theorem lits_append (l m : List LitR) : lits (l ++ m) = lits l ++ lits m := by simp [lits]
/-- A clause as it lies in memory. -/
structure Cl where
  lz : Bool
  ls : List LitR
  le : List D
  tz : Bool
  ts : List Row
  te : List D
  cz : Bool
  cs : List LitR
  ce : List D
abbrev Cl.d (c : Cl) : D := .agg [.sl 2 c.lz (lits c.ls) c.le, .sl 1 c.tz (rws c.ts) c.te, .sl 2 c.cz (lits c.cs) c.ce]
abbrev iC (c : Cl) : IV := .d (.agg [.sl 2 c.lz (lits c.ls) c.le, .sl 1 c.tz (rws c.ts) c.te, .sl 2 c.cz (lits c.cs) c.ce])
/-! ### What may be -/
def litsB (g : List Sym) (ls : List LitR) : Bool := ls.all fun l => atomB g l.r.l
def lenL : List LitR → Nat
  | [] => 0
  | l :: ls => l.r.l.length + lenL ls
def lenR : List Row → Nat
  | [] => 0
  | r :: rs => r.l.length + lenR rs
def termsN (g : List Sym) (r : List Int) : Nat := (begsM g r).length
def rowsF (g : List Sym) (k : Nat) (ts : List Row) : Bool := ts.all fun r => rowB g r.l && (termsN g r.l == k)
def rowsB (g : List Sym) (ts : List Row) : Bool := match ts with
  | [] => true
  | r :: _ => rowsF g (termsN g r.l) ts
def clB (g : List Sym) (c : Cl) : Bool := sigB g && (decide (c.ls.length ≤ 5) && (decide (c.ts.length ≤ 3) && (decide (c.cs.length ≤ 3) && (litsB g c.ls && (rowsB g c.ts && (litsB g c.cs && decide (lenL c.ls + lenR c.ts + lenL c.cs ≤ 240)))))))
theorem lenL_le {g : List Sym} : ∀ {ls : List LitR}, litsB g ls = true → lenL ls ≤ 49 * ls.length
  | [], h => by simp [lenL]
  | l :: ls, h => by
    simp only [litsB, List.all_cons, Bool.and_eq_true] at h
    have h1 := (atom_codes h.1).1
    have h2 := lenL_le (ls := ls) h.2
    simp [lenL]; omega
theorem rowB_len {g : List Sym} {r : List Int} (h : rowB g r = true) : r.length ≤ 48 := by
  simp only [rowB, Bool.and_eq_true, rowP] at h
  by_cases h1 : r.length ≤ 48
  · exact h1
  · rw [if_neg h1] at h; simp at h
theorem lenR_le {g : List Sym} {k : Nat} : ∀ {ts : List Row}, rowsF g k ts = true → lenR ts ≤ 48 * ts.length
  | [], h => by simp [lenR]
  | r :: ts, h => by
    simp only [rowsF, List.all_cons, Bool.and_eq_true] at h
    have h1 := rowB_len h.1.1
    have h2 := lenR_le (ts := ts) (k := k) h.2
    simp [lenR]; omega
/-! ### What they weigh -/
def codeW (g : List Sym) (c : Int) : Int := if c < 0 then 1 else match g[c.toNat]? with | some s => s.wt | none => 0
def sumW (g : List Sym) : List Int → Int
  | [] => 0
  | c :: r => codeW g c + sumW g r
/-- Codes that a signature knows. -/
def Known (g : List Sym) (r : List Int) : Prop := ∀ c ∈ r, c < g.length
theorem codeW_le {g : List Sym} (hg : SigOk g) (c : Int) (h : c < g.length) : 1 ≤ codeW g c ∧ codeW g c ≤ 20 := by
  unfold codeW
  split
  · omega
  · obtain ⟨s, hs⟩ := at_lt (l := g) (i := c.toNat) (by omega)
    rw [hs]
    have := hg.nums _ _ hs
    dsimp only; omega
end Go.Qu

/- Rows of terms: how deep they are, which variables they have, what joining and cutting does. Plain lists, no program in sight; no condition. -/
set_option linter.unusedVariables false
set_option linter.unusedSimpArgs false
namespace Go.Qu
open Go Go.Ab
theorem lenN_cons {g : List Sym} {c : Int} {r : List Int} {n a : Nat} (ha : arOf g c = some a) : lenN g (c :: r) (n + 1) = (lenN g r (n + a)).map (· + 1) := by
  simp [lenN, ha]
theorem lenN_some {g : List Sym} {c : Int} {r : List Int} {n k : Nat} (h : lenN g (c :: r) (n + 1) = some k) : ∃ a m, arOf g c = some a ∧ lenN g r (n + a) = some m ∧ k = m + 1 := by
  unfold lenN at h
  split at h
  · cases h
  · rename_i a ha
    obtain ⟨m, hm, rfl⟩ := Option.map_eq_some_iff.1 h
    exact ⟨a, m, ha, hm, rfl⟩
theorem lenN_app {g : List Sym} : ∀ {r : List Int} {n k : Nat} (s : List Int), lenN g r n = some k → lenN g (r ++ s) n = some k
  | r, 0, k, s, h => by
    have e : k = 0 := by cases r <;> simp [lenN] at h <;> omega
    subst e
    cases r ++ s <;> simp [lenN]
  | [], n + 1, k, s, h => by simp [lenN] at h
  | c :: r, n + 1, k, s, h => by
    obtain ⟨a, m, ha, hm, rfl⟩ := lenN_some h
    rw [List.cons_append, lenN_cons ha, lenN_app s hm]; rfl
theorem lenN_take {g : List Sym} : ∀ {r : List Int} {n k : Nat}, lenN g r n = some k → lenN g (r.take k) n = some k
  | r, 0, k, h => by
    have e : k = 0 := by cases r <;> simp [lenN] at h <;> omega
    subst e
    cases r <;> simp [lenN]
  | [], n + 1, k, h => by simp [lenN] at h
  | c :: r, n + 1, k, h => by
    obtain ⟨a, m, ha, hm, rfl⟩ := lenN_some h
    rw [List.take_succ_cons, lenN_cons ha, lenN_take hm]; rfl
theorem lenN_split {g : List Sym} : ∀ {r : List Int} {n k : Nat} (m : Nat), lenN g r n = some k → lenN g r (n + m) = (lenN g (r.drop k) m).map (k + ·)
  | r, 0, k, m, h => by
    have e : k = 0 := by cases r <;> simp [lenN] at h <;> omega
    subst e
    simp
  | [], n + 1, k, m, h => by simp [lenN] at h
  | c :: r, n + 1, k, m, h => by
    obtain ⟨a, j, ha, hm, rfl⟩ := lenN_some h
    rw [show n + 1 + m = (n + m) + 1 by omega, lenN_cons ha, show n + m + a = (n + a) + m by omega, lenN_split m hm, List.drop_succ_cons]
    cases lenN g (r.drop j) m <;> simp; omega
theorem lenN_first {g : List Sym} {r : List Int} {n k : Nat} (h : lenN g r (n + 1) = some k) : ∃ k1 k2, lenN g r 1 = some k1 ∧ lenN g (r.drop k1) n = some k2 ∧ k = k1 + k2 := by
  have : ∃ k1, lenN g r 1 = some k1 := by
    have hgen : ∀ (r : List Int) (i j : Nat) {k : Nat}, lenN g r (i + j) = some k → ∃ k1, lenN g r i = some k1 := by
      intro r
      induction r with
      | nil =>
        intro i j k h
        cases i with
        | zero => exact ⟨0, rfl⟩
        | succ i => rw [show i + 1 + j = (i + j) + 1 by omega] at h; simp [lenN] at h
      | cons c r ih =>
        intro i j k h
        cases i with
        | zero => exact ⟨0, rfl⟩
        | succ i =>
          rw [show i + 1 + j = (i + j) + 1 by omega] at h
          obtain ⟨a, m, ha, hm, rfl⟩ := lenN_some h
          rw [show i + j + a = (i + a) + j by omega] at hm
          obtain ⟨k1, hk⟩ := ih (i + a) j hm
          exact ⟨k1 + 1, by rw [lenN_cons ha, hk]; rfl⟩
    exact hgen r 1 n (by rw [Nat.add_comm]; exact h)
  obtain ⟨k1, h1⟩ := this
  have h2 := lenN_split n h1
  rw [Nat.add_comm 1 n, h] at h2
  cases h3 : lenN g (r.drop k1) n with
  | none => rw [h3] at h2; cases h2
  | some k2 => rw [h3] at h2; simp at h2; exact ⟨k1, k2, h1, h3, h2⟩
/-! ### Rows -/
theorem parts_one {g : List Sym} {r : List Int} {k : Nat} (h : lenN g r 1 = some k) : parts g (r.take k) = some [r.take k] := by
  have hle := lenN_le h
  have hne : r.take k ≠ [] := by
    intro e
    have := congrArg List.length e
    rw [List.length_take] at this; simp only [List.length_nil] at this; omega
  rw [parts_some hne (lenN_take h)]
  have e1 : (r.take k).drop k = [] := List.drop_of_length_le (by simp; omega)
  have e2 : (r.take k).take k = r.take k := List.take_of_length_le (by simp; omega)
  rw [e1, e2, parts_nil]; rfl
/-- A row begins with a term, and the others follow. -/
theorem parts_cases {g : List Sym} {r : List Int} {ts : List (List Int)} (h : parts g r = some ts) : (r = [] ∧ ts = []) ∨ ∃ k us, lenN g r 1 = some k ∧ parts g (r.drop k) = some us ∧ ts = r.take k :: us ∧ r ≠ [] := by
  by_cases hr : r = []
  · subst hr; rw [parts_nil] at h; cases h; exact Or.inl ⟨rfl, rfl⟩
  · cases hl : lenN g r 1 with
    | none => rw [parts_none hr hl] at h; cases h
    | some k =>
      rw [parts_some hr hl] at h
      obtain ⟨us, h1, rfl⟩ := Option.map_eq_some_iff.1 h
      exact Or.inr ⟨k, us, rfl, h1, rfl, hr⟩
theorem lenN_inner {g : List Sym} : ∀ {r : List Int} {n k : Nat}, lenN g r n = some k → ∀ i, i < k → ∃ j, lenN g (r.drop i) 1 = some j
  | r, 0, k, h, i, hi => by cases r <;> (simp [lenN] at h; omega)
  | [], n + 1, k, h, i, hi => by simp [lenN] at h
  | c :: r, n + 1, k, h, 0, hi => by
    obtain ⟨k1, k2, h1, _, _⟩ := lenN_first h
    exact ⟨k1, h1⟩
  | c :: r, n + 1, k, h, i + 1, hi => by
    obtain ⟨a, m, ha, hm, rfl⟩ := lenN_some h
    rw [List.drop_succ_cons]
    exact lenN_inner hm i (by omega)
theorem parts_all {g : List Sym} : ∀ (n : Nat) {r : List Int} {ts : List (List Int)}, r.length ≤ n → parts g r = some ts → lenN g r ts.length = some r.length
  | n, r, ts, hn, h => by
    rcases parts_cases h with ⟨rfl, rfl⟩ | ⟨k, vs, hl, hv, rfl, hne⟩
    · rfl
    · have hle := lenN_le hl
      match n, hn with
      | 0, hn => exact absurd (List.length_eq_zero_iff.1 (Nat.le_zero.1 hn)) hne
      | n + 1, hn =>
        have h1 := parts_all n (r := r.drop k) (by simp; omega) hv
        have h2 := lenN_split vs.length hl
        rw [h1] at h2
        rw [List.length_cons, Nat.add_comm, h2]
        simp; omega
theorem rowB_parts {g : List Sym} {r : List Int} (h : rowB g r = true) : sigB g = true ∧ r.length ≤ 48 ∧ ∃ ts, parts g r = some ts ∧ rowP g r = some ts := by
  simp only [rowB, Bool.and_eq_true, rowP] at h
  by_cases h1 : r.length ≤ 48
  · rw [if_pos h1] at h
    obtain ⟨ts, hts⟩ := Option.isSome_iff_exists.1 h.2
    exact ⟨h.1, h1, ts, hts, by simp [rowP, h1, hts]⟩
  · rw [if_neg h1] at h; simp at h
theorem rowB_of {g : List Sym} {r : List Int} {ts : List (List Int)} (hg : sigB g = true) (hr : r.length ≤ 48) (h : parts g r = some ts) : rowB g r = true := by
  simp [rowB, hg, rowP, hr, h]
theorem termsN_of {g : List Sym} {r : List Int} {ts : List (List Int)} (hg : sigB g = true) (hr : r.length ≤ 48) (h : parts g r = some ts) : termsN g r = ts.length := by
  simp [termsN, begsM, hg, rowP, hr, h, begs_len]
theorem termsN_no {g : List Sym} {r : List Int} (h : rowB g r = false) : termsN g r = 0 := by
  simp only [rowB, Bool.and_eq_false_iff] at h
  unfold termsN begsM
  rcases h with h | h
  · simp [h]
  · cases hp : rowP g r with
    | none => simp
    | some ts => rw [hp] at h; simp at h
theorem row_codes {g : List Sym} {r : List Int} (h : rowB g r = true) : ∀ c ∈ r, -24 ≤ c ∧ c < g.length := by
  obtain ⟨hg, hr, ts, hts, _⟩ := rowB_parts h
  intro c hc
  exact arOf_lt (parts_codes _ r (Nat.le_refl _) hts c hc)
theorem row_len {g : List Sym} {r : List Int} (h : rowB g r = true) : Len r := by
  have := (rowB_parts h).2.1
  unfold Len; omega
/-! ### How deep -/
theorem tkX_ints {n : Nat} {r : List Int} (h : n ≤ r.length) (e : List D) : tkX n (ints r) e = ints (r.take n) := by
  rw [tkX_eq _ _ _ (.inr (by rw [ints_len]; exact h)), List.take_append_of_le_length (by rw [ints_len]; exact h)]
  simp [ints]
theorem ints_drop (n : Nat) (r : List Int) : (ints r).drop n = ints (r.drop n) := by simp [ints]
theorem ints_take (n : Nat) (r : List Int) : (ints r).take n = ints (r.take n) := by simp [ints]
/-! ### Which variables -/
abbrev Up (l : List Int) : Prop := l.Pairwise (· < ·)
def lowS (vs : List Int) (v : Int) : Nat := (vs.takeWhile (fun x => decide (x < v))).length
def insS (vs : List Int) (v : Int) : List Int := if v ∈ vs then vs else vs.take (lowS vs v) ++ v :: vs.drop (lowS vs v)
def seenF : List Int → List Int → List Int
  | vs, [] => vs
  | vs, c :: r => seenF (if c < 0 then insS vs (-1 - c) else vs) r
theorem low_spec : ∀ {vs : List Int} (v : Int), Up vs → (∀ x ∈ vs.take (lowS vs v), x < v) ∧ (∀ x ∈ vs.drop (lowS vs v), v ≤ x) ∧ lowS vs v ≤ vs.length
  | [], v, h => by simp [lowS]
  | x :: vs, v, h => by
    obtain ⟨h1, h2⟩ := List.pairwise_cons.1 h
    obtain ⟨i1, i2, i3⟩ := low_spec (vs := vs) v h2
    by_cases hx : x < v
    · have e : lowS (x :: vs) v = lowS vs v + 1 := by simp [lowS, hx]
      rw [e, List.take_succ_cons, List.drop_succ_cons]
      refine ⟨fun y hy => ?_, i2, by simp; omega⟩
      rcases List.mem_cons.1 hy with rfl | hy
      · exact hx
      · exact i1 y hy
    · have e : lowS (x :: vs) v = 0 := by simp [lowS, hx]
      rw [e]
      refine ⟨by simp, fun y hy => ?_, by simp⟩
      rcases List.mem_cons.1 (by simpa using hy) with rfl | hy
      · omega
      · have := h1 y hy; omega
theorem mem_ins {vs : List Int} {v x : Int} : x ∈ insS vs v ↔ x ∈ vs ∨ x = v := by
  unfold insS
  split
  · rename_i h
    constructor
    · exact Or.inl
    · rintro (h1 | rfl)
      · exact h1
      · exact h
  · constructor
    · intro h
      rcases List.mem_append.1 h with h | h
      · exact Or.inl (List.mem_of_mem_take h)
      · rcases List.mem_cons.1 h with rfl | h
        · exact Or.inr rfl
        · exact Or.inl (List.mem_of_mem_drop h)
    · rintro (h | rfl)
      · rw [← List.take_append_drop (lowS vs v) vs] at h
        rcases List.mem_append.1 h with h | h
        · exact List.mem_append_left _ h
        · exact List.mem_append_right _ (List.mem_cons_of_mem _ h)
      · exact List.mem_append_right _ (List.mem_cons_self ..)
theorem up_ins {vs : List Int} {v : Int} (h : Up vs) : Up (insS vs v) := by
  unfold insS
  split
  · exact h
  · rename_i hv
    obtain ⟨h1, h2, h3⟩ := low_spec v h
    have h0 := h
    rw [← List.take_append_drop (lowS vs v) vs, Up, List.pairwise_append] at h0
    obtain ⟨a1, a2, a3⟩ := h0
    rw [Up, List.pairwise_append]
    refine ⟨a1, List.pairwise_cons.2 ⟨fun x hx => ?_, a2⟩, fun x hx y hy => ?_⟩
    · have hx2 := h2 x hx
      have : x ≠ v := fun e => hv (e ▸ List.mem_of_mem_drop hx)
      omega
    · rcases List.mem_cons.1 hy with rfl | hy
      · exact h1 x hx
      · exact a3 x hx y hy
theorem mem_seen : ∀ {r vs : List Int} {x : Int}, x ∈ seenF vs r ↔ x ∈ vs ∨ (0 ≤ x ∧ (-1 - x) ∈ r)
  | [], vs, x => by simp [seenF]
  | c :: r, vs, x => by
    rw [seenF, mem_seen (r := r)]
    by_cases hc : c < 0
    · rw [if_pos hc, mem_ins, List.mem_cons]
      constructor
      · rintro ((h | rfl) | ⟨h1, h2⟩)
        · exact Or.inl h
        · exact Or.inr ⟨by omega, Or.inl (by omega)⟩
        · exact Or.inr ⟨h1, Or.inr h2⟩
      · rintro (h | ⟨h1, h2 | h2⟩)
        · exact Or.inl (Or.inl h)
        · exact Or.inl (Or.inr (by omega))
        · exact Or.inr ⟨h1, h2⟩
    · rw [if_neg hc, List.mem_cons]
      constructor
      · rintro (h | ⟨h1, h2⟩)
        · exact Or.inl h
        · exact Or.inr ⟨h1, Or.inr h2⟩
      · rintro (h | ⟨h1, h2 | h2⟩)
        · exact Or.inl h
        · omega
        · exact Or.inr ⟨h1, h2⟩
theorem up_seen : ∀ {r vs : List Int}, Up vs → Up (seenF vs r)
  | [], vs, h => h
  | c :: r, vs, h => by
    rw [seenF]
    refine up_seen (r := r) ?_
    split
    · exact up_ins h
    · exact h
theorem mem_varsFrom {r : List Int} : ∀ {k v : Nat} {x : Int}, x ∈ varsFrom r k v ↔ (v : Int) ≤ x ∧ x < ((v + k : Nat) : Int) ∧ (-1 - x) ∈ r
  | 0, v, x => by
    simp only [varsFrom, List.not_mem_nil, false_iff]
    rintro ⟨h1, h2, h3⟩; omega
  | k + 1, v, x => by
    rw [varsFrom]
    have ih := mem_varsFrom (r := r) (k := k) (v := v + 1) (x := x)
    split
    · rename_i h
      simp at h
      rw [List.mem_cons, ih]
      constructor
      · rintro (rfl | ⟨h1, h2, h3⟩)
        · exact ⟨by omega, by omega, h⟩
        · exact ⟨by omega, by omega, h3⟩
      · rintro ⟨h1, h2, h3⟩
        by_cases e : x = v
        · exact Or.inl e
        · exact Or.inr ⟨by omega, by omega, h3⟩
    · rename_i h
      simp at h
      rw [ih]
      constructor
      · rintro ⟨h1, h2, h3⟩; exact ⟨by omega, by omega, h3⟩
      · rintro ⟨h1, h2, h3⟩
        have e : x ≠ v := by rintro rfl; exact h h3
        exact ⟨by omega, by omega, h3⟩
theorem up_varsFrom {r : List Int} : ∀ {k v : Nat}, Up (varsFrom r k v)
  | 0, v => List.Pairwise.nil
  | k + 1, v => by
    rw [varsFrom]
    split
    · refine List.pairwise_cons.2 ⟨fun x hx => ?_, up_varsFrom⟩
      have := (mem_varsFrom.1 hx).1
      omega
    · exact up_varsFrom
theorem up_ext : ∀ {a b : List Int}, Up a → Up b → (∀ x, x ∈ a ↔ x ∈ b) → a = b
  | [], [], _, _, _ => rfl
  | [], y :: b, _, _, h => by have := (h y).2 (by simp); simp at this
  | x :: a, [], _, _, h => by have := (h x).1 (by simp); simp at this
  | x :: a, y :: b, ha, hb, h => by
    obtain ⟨a1, a2⟩ := List.pairwise_cons.1 ha
    obtain ⟨b1, b2⟩ := List.pairwise_cons.1 hb
    have e : x = y := by
      have h1 := (h x).1 (by simp)
      have h2 := (h y).2 (by simp)
      rcases List.mem_cons.1 h1 with h1 | h1
      · exact h1
      · rcases List.mem_cons.1 h2 with h2 | h2
        · exact h2.symm
        · have := a1 y h2; have := b1 x h1; omega
    subst e
    rw [up_ext a2 b2 (fun z => ?_)]
    constructor
    · intro hz
      rcases List.mem_cons.1 ((h z).1 (by simp [hz])) with rfl | h1
      · have := a1 z hz; omega
      · exact h1
    · intro hz
      rcases List.mem_cons.1 ((h z).2 (by simp [hz])) with rfl | h1
      · have := b1 z hz; omega
      · exact h1
theorem seen_vars {r : List Int} (h : ∀ c ∈ r, -24 ≤ c) : seenF [] r = varsM r := by
  refine up_ext (up_seen List.Pairwise.nil) up_varsFrom (fun x => ?_)
  rw [mem_seen, varsM, mem_varsFrom]
  constructor
  · rintro (h1 | ⟨h1, h2⟩)
    · simp at h1
    · exact ⟨by omega, by have := h _ h2; omega, h2⟩
  · rintro ⟨h1, h2, h3⟩
    exact Or.inr ⟨by omega, h3⟩
theorem up_gi : ∀ {vs : List Int}, Up vs → ∀ {i j : Nat}, i < j → j < vs.length → gi vs i < gi vs j
  | vs, h, i, j, hij, hj => by
    have h1 := List.pairwise_iff_getElem.1 h i j (by omega) hj hij
    simpa [gi, hj, show i < vs.length by omega] using h1
theorem low_of : ∀ {vs : List Int} {v : Int} (i : Nat), i ≤ vs.length → (∀ k, k < i → gi vs k < v) → (∀ k, i ≤ k → k < vs.length → v ≤ gi vs k) → lowS vs v = i
  | [], v, i, h, h1, h2 => by simp at h; simp [lowS, h]
  | x :: vs, v, 0, h, h1, h2 => by
    have h3 := h2 0 (Nat.le_refl _) (by simp)
    simp [gi] at h3
    have h4 : ¬ x < v := by omega
    simp [lowS, h4]
  | x :: vs, v, i + 1, h, h1, h2 => by
    have h3 := h1 0 (by omega)
    simp [gi] at h3
    have e : lowS (x :: vs) v = lowS vs v + 1 := by simp [lowS, h3]
    rw [e, low_of (vs := vs) (v := v) i (by simpa using h) (fun k hk => by simpa [gi] using h1 (k + 1) (by omega)) (fun k hk hk2 => by simpa [gi] using h2 (k + 1) (by omega) (by simp; omega))]
theorem low_le : ∀ {vs : List Int} {v : Int}, lowS vs v ≤ vs.length
  | vs, v => (List.takeWhile_sublist _).length_le
theorem low_mem {vs : List Int} {v : Int} (h : Up vs) : v ∈ vs ↔ lowS vs v < vs.length ∧ gi vs (lowS vs v) = v := by
  obtain ⟨h1, h2, h3⟩ := low_spec v h
  constructor
  · intro hv
    rw [← List.take_append_drop (lowS vs v) vs] at hv
    rcases List.mem_append.1 hv with hv | hv
    · have := h1 v hv; omega
    · have hlt : lowS vs v < vs.length := by
        rcases Nat.lt_or_ge (lowS vs v) vs.length with hl | hl
        · exact hl
        · rw [List.drop_of_length_le hl] at hv; simp at hv
      refine ⟨hlt, ?_⟩
      rw [gi_drop hlt] at hv h2
      rcases List.mem_cons.1 hv with hv | hv
      · exact hv.symm
      · have h4 := h2 _ (List.mem_cons_self ..)
        obtain ⟨j, hj, he⟩ := List.getElem_of_mem hv
        simp at hj
        have h5 := up_gi h (i := lowS vs v) (j := lowS vs v + 1 + j) (by omega) (by omega)
        have h6 : gi vs (lowS vs v + 1 + j) = v := by
          rw [List.getElem_drop] at he
          simp [gi, show lowS vs v + 1 + j < vs.length by omega, he]
        omega
  · rintro ⟨h4, h5⟩
    rw [← h5]
    exact gi_mem h4
theorem ins_len {vs : List Int} {v : Int} : (insS vs v).length ≤ vs.length + 1 := by
  unfold insS
  split
  · omega
  · simp; omega
end Go.Qu

/- Rows of terms: what the program's and the reference's exported functions hand back. For every input; no condition. -/
set_option linter.unusedVariables false
set_option linter.unusedSimpArgs false
set_option maxRecDepth 100000
namespace Go.Proofs.YtmldmhbdeejcnaaDoor.Ab
open Go Go.Ab Go.Qu Go.Proofs
attribute [local simp] and_assoc
theorem w_row (z z' : Bool) (g : List Sym) (e e' : List D) (r : List Int) : C 64 [iG z g e, iS z' r e'] = some (.tup [iI (termsN g r), iI (if rowB g r = true then 0 else 200)], [iG z g e, iS z' r e']) := by
  refine wfn (lk := []) rfl rfl (fnW_way (q64 _ _ z (syms g) e z' (ints r) e' _) ?_)
  have h1 := w_begins z z' g e e' r
  cases h : rowB g r
  · simp [-Bool.exists_bool, h1, h, termsN_no h]
  · simp [-Bool.exists_bool, h1, h, ints_len, termsN]
theorem w_sum {g : List Sym} (hg : SigOk g) {r : List Int} (hr : Len r) (hk : Known g r) (z z' : Bool) (e e' : List D) : C 40 [iG z g e, iS z' r e'] = some (iI (sumW g r), [iG z g e, iS z' r e']) := by
  have hrl := hr.lt
  refine wfn (lk := []) rfl rfl (fnW_way (q40 _ _ z (syms g) e z' (ints r) e' _) ?_)
  have h1 := fun x hx => blk_fun (F := F) (d := d40) (lk := []) (p := [1,1,0,1,0,0]) (p0 := [1,1,0,1]) (id := 0) (by kernel_rfl) (st := fun (x : Nat × Int) => [(0, iG z g e), (5, iI x.2), (8, iS z' r e'), (9, iI r.length), (10, iI x.1)]) (I := fun x => x.1 ≤ r.length ∧ 0 ≤ x.2 ∧ x.2 ≤ 20 * x.1) (μ := fun x => r.length - x.1)
    (res := fun x => .norm [(0, iG z g e), (5, iI (x.2 + sumW g (r.drop x.1))), (8, iS z' r e'), (9, iI r.length), (10, iI r.length)])
    (fun x hx => by
      obtain ⟨i, k⟩ := x
      obtain ⟨hx1, hx2, hx3⟩ := hx
      dsimp only at hx1 hx2 hx3
      by_cases hi : i < r.length
      · have hc := hk _ (gi_mem hi)
        have hcw := codeW_le hg _ hc
        have hi' : (i : Int) < r.length := by omega
        have hw : IntKind.wrap .i64 (k + codeW g (gi r i)) = k + codeW g (gi r i) := wr _ (by omega) (by omega)
        refine .go (i + 1, k + codeW g (gi r i)) (wpQ_way (q40_l0a _ _ z (syms g) e k z' (ints r) e' _ i _) ?_) ⟨by dsimp only; omega, by dsimp only; omega, by dsimp only; omega⟩ (by dsimp only; omega) ?_
        · by_cases h0 : gi r i < 0
          · have e1 : codeW g (gi r i) = 1 := by simp [codeW, h0]
            have h0n : ¬ 0 ≤ gi r i := by omega
            rw [e1] at hw ⊢
            simp [-Bool.exists_bool, -getElem?_pos, -Int.natCast_add, hi', Go.Ab.ints_at hi, h0, h0n, hw, wr1 hi (by omega)]
          · have h0' : 0 ≤ gi r i := by omega
            obtain ⟨s, hs⟩ := at_lt (l := g) (i := (gi r i).toNat) (by omega)
            have e1 : codeW g (gi r i) = s.wt := by simp [codeW, h0, hs]
            rw [e1] at hw ⊢
            simp [-Bool.exists_bool, -getElem?_pos, -Int.natCast_add, hi', Go.Ab.ints_at hi, h0, h0', syms_at hs, hw, wr1 hi (by omega)]
        · dsimp only
          rw [gi_drop hi, sumW, Int.add_assoc]
      · have e1 : i = r.length := by omega
        subst e1
        refine .stop (.exit 0 [(0, iG z g e), (5, iI k), (8, iS z' r e'), (9, iI r.length), (10, iI r.length)]) (wpQ_way (q40_l0a _ _ z (syms g) e k z' (ints r) e' _ _ _) (by simp)) rfl ?_
        simp [blkO, sumW]) x hx
  have h2 : evP F (Go.Ab.W F) (JW F d40 []) d40 [] [1,1,0,1] [(0, iG z g e), (5, iI 0), (8, iS z' r e'), (9, iI r.length), (10, iI 0)] = _ := h1 (0, 0) ⟨Nat.zero_le _, by decide, by decide⟩
  rw [List.drop_zero, Int.zero_add] at h2
  simp [-Bool.exists_bool, ints_len, h2]
/-! ### Numbers that rise -/
theorem w_isnan (c : Int) : C 90 [iI c] = some (iB false, [iI c]) :=
  wfn (lk := []) rfl rfl (fnW_way (q90 _ _ c _) (by simp))
theorem w_cisnan (c : Int) : C 98 [iI c] = some (iB false, [iI c]) :=
  wfn (lk := []) rfl rfl (fnW_way (q98 _ _ c _) (by simp))
theorem w_less (a b : Int) : C 89 [iI a, iI b] = some (iB (decide (a < b)), [iI a, iI b]) := by
  refine wfn (lk := []) rfl rfl (fnW_way (q89 _ _ a b _) ?_)
  by_cases h : a < b <;> simp [-Bool.exists_bool, w_cisnan, h]
theorem w_binsearch {vs : List Int} (hu : Up vs) (hl : vs.length ≤ 1000000) (z : Bool) (e : List D) (v : Int) : C 74 [iS z vs e, iI v] = some (.tup [iI (lowS vs v), iB (decide (v ∈ vs))], [iS z vs e, iI v]) := by
  refine wfn (lk := []) rfl rfl (fnW_way (q74 _ _ z (ints vs) e v _) ?_)
  have h1 := fun x hx => blk_fun (F := F) (d := d74) (lk := []) (p := [1,1,1,0,0,0]) (p0 := [1,1,1,0]) (id := 0) (by kernel_rfl) (st := fun (x : Nat × Nat) => [(0, iS z vs e), (1, iI v), (6, iI vs.length), (7, iI x.1), (8, iI x.2)]) (I := fun x => x.1 ≤ x.2 ∧ x.2 ≤ vs.length ∧ (∀ k, k < x.1 → gi vs k < v) ∧ (∀ k, x.2 ≤ k → k < vs.length → v ≤ gi vs k)) (μ := fun x => x.2 - x.1)
    (res := fun _ => .norm [(0, iS z vs e), (1, iI v), (6, iI vs.length), (7, iI (lowS vs v)), (8, iI (lowS vs v))])
    (fun x hx => by
      obtain ⟨i, j⟩ := x
      obtain ⟨hx1, hx2, hx3, hx4⟩ := hx
      dsimp only at hx1 hx2 hx3 hx4
      by_cases h : i < j
      · have hw : IntKind.wrap .i64 (IntKind.wrap .u64 (IntKind.wrap .i64 ((i : Int) + j)) / 2 ^ min (Int.toNat 1) (IntKind.bits .u64)) = (((i + j) / 2 : Nat) : Int) := by
          have e1 : IntKind.wrap .i64 ((i : Int) + j) = ((i + j : Nat) : Int) := by rw [wr _ (by omega) (by omega)]; omega
          have e2 : IntKind.wrap .u64 (((i + j : Nat) : Int)) = ((i + j : Nat) : Int) := by
            simp [IntKind.wrap, IntKind.bits, IntKind.signed]; omega
          have e3 : (2 : Int) ^ min (Int.toNat 1) (IntKind.bits .u64) = 2 := by decide
          rw [e1, e2, e3, wr _ (by omega) (by omega)]; omega
        have hm : (i + j) / 2 < vs.length := by omega
        have hc := w_less (gi vs ((i + j) / 2)) v
        have hw2 : IntKind.wrap .i64 ((((i + j) / 2 : Nat) : Int) + 1) = (((i + j) / 2 + 1 : Nat) : Int) := by rw [wr _ (by omega) (by omega)]; omega
        have h' : (i : Int) < j := by omega
        by_cases hv : gi vs ((i + j) / 2) < v
        · refine .go ((i + j) / 2 + 1, j) (wpQ_way (q74_l0a _ _ z (ints vs) e v _ i j _) ?_) ⟨by dsimp only; omega, hx2, fun k hk => ?_, hx4⟩ (by dsimp only; omega) rfl
          · rw [hw, hw2, Int.toNat_natCast, Go.Ab.ints_at hm]
            simp [-Bool.exists_bool, -getElem?_pos, h, hc, hv]
            omega
          · rcases Nat.lt_or_ge k ((i + j) / 2) with h5 | h5
            · have := up_gi hu h5 hm; omega
            · have : k = (i + j) / 2 := by dsimp only at hk; omega
              rw [this]; exact hv
        · refine .go (i, (i + j) / 2) (wpQ_way (q74_l0a _ _ z (ints vs) e v _ i j _) ?_) ⟨by dsimp only; omega, by dsimp only; omega, hx3, fun k hk hk2 => ?_⟩ (by dsimp only; omega) rfl
          · rw [hw, hw2, Int.toNat_natCast, Go.Ab.ints_at hm]
            simp [-Bool.exists_bool, -getElem?_pos, h, hc, hv]
            omega
          · rcases Nat.lt_or_ge ((i + j) / 2) k with h5 | h5
            · have := up_gi hu h5 hk2; omega
            · have : k = (i + j) / 2 := by dsimp only at hk; omega
              rw [this]; omega
      · have e1 : j = i := by omega
        subst e1
        have e2 : lowS vs v = j := low_of j hx2 hx3 hx4
        refine .stop (.exit 0 [(0, iS z vs e), (1, iI v), (6, iI vs.length), (7, iI j), (8, iI j)]) (wpQ_way (q74_l0a _ _ z (ints vs) e v _ j j _) ?_) rfl ?_
        · simp
        · rw [e2]; rfl) x hx
  have h2 : evP F (Go.Ab.W F) (JW F d74 []) d74 [] [1,1,1,0] [(0, iS z vs e), (1, iI v), (6, iI vs.length), (7, iI 0), (8, iI vs.length)] = _ := h1 (0, vs.length) ⟨Nat.zero_le _, Nat.le_refl _, fun k hk => absurd hk (Nat.not_lt_zero _), fun k hk hk2 => absurd hk2 (by dsimp only at hk; omega)⟩
  have hmem := low_mem (v := v) hu
  by_cases h3 : lowS vs v < vs.length
  · by_cases h4 : gi vs (lowS vs v) = v
    · have h5 : v ∈ vs := hmem.2 ⟨h3, h4⟩
      simp [-Bool.exists_bool, -getElem?_pos, ints_len, h2, h3, h4, h5, Go.Ab.ints_at h3]
    · have h5 : ¬ v ∈ vs := fun h => h4 (hmem.1 h).2
      simp [-Bool.exists_bool, -getElem?_pos, ints_len, h2, h3, h4, h5, Go.Ab.ints_at h3, w_isnan]
  · have h5 : ¬ v ∈ vs := fun h => h3 (hmem.1 h).1
    simp [-Bool.exists_bool, ints_len, h2, h3, h5]
/-! ### The reference's -/
end Go.Proofs.YtmldmhbdeejcnaaDoor.Ab

/- Literals, clauses: what the program's and the reference's functions hand back. For every input; no condition. -/
set_option linter.unusedVariables false
set_option linter.unusedSimpArgs false
set_option maxRecDepth 100000
namespace Go.Proofs.YtmldmhbdeejcnaaDoor.Ab
open Go Go.Ab Go.Qu Go.Proofs
attribute [local simp] and_assoc
theorem w_litmay (z : Bool) (g : List Sym) (e : List D) (b z' : Bool) (a : List Int) (e' : List D) : C 41 [iG z g e, iLit b z' a e'] = some (iB (atomB g a), [iG z g e, iLit b z' a e']) := by
  refine wfn (lk := []) rfl rfl (fnW_way (q41 _ _ z (syms g) e b z' (ints a) e' _) ?_)
  have h1 := w_isatom z z' g e e' a
  cases h : atomB g a <;> simp [-Bool.exists_bool, h1, h]
theorem w_litsmay (z z' : Bool) (g : List Sym) (e e' : List D) {ls : List LitR} (hl : ls.length ≤ 1000) : C 34 [iG z g e, iL z' ls e'] = some (.tup [iI (if litsB g ls = true then (lenL ls : Int) else 0), iB (litsB g ls)], [iG z g e, iL z' ls e']) := by
  refine wfn (lk := []) rfl rfl (fnW_way (q34 _ _ z (syms g) e z' (lits ls) e' _) ?_)
  have h1 := fun x hx => blk_fun (F := F) (d := d34) (lk := []) (p := [1,1,0,1,0,0]) (p0 := [1,1,0,1]) (id := 0) (by kernel_rfl) (st := fun (x : Nat × Nat) => [(0, iG z g e), (6, iI x.2), (9, iL z' ls e'), (10, iI ls.length), (11, iI x.1)]) (I := fun x => x.1 ≤ ls.length ∧ x.2 ≤ 49 * x.1) (μ := fun x => ls.length - x.1)
    (res := fun x => if litsB g (ls.drop x.1) = true then .norm [(0, iG z g e), (6, iI (x.2 + lenL (ls.drop x.1) : Nat)), (9, iL z' ls e'), (10, iI ls.length), (11, iI ls.length)] else .ret [(4, iI 0), (5, iB false)])
    (fun x hx => by
      obtain ⟨i, k⟩ := x
      obtain ⟨hx1, hx2⟩ := hx
      dsimp only at hx1 hx2
      by_cases hi : i < ls.length
      · obtain ⟨l, hl1⟩ := at_lt hi
        have hd : ls.drop i = l :: ls.drop (i + 1) := by
          rw [List.drop_eq_getElem_cons hi]
          rw [List.getElem?_eq_getElem hi] at hl1
          cases hl1; rfl
        have hm := w_litmay z g e l.neg l.r.z l.r.l l.r.e
        have hi' : (i : Int) < ls.length := by omega
        cases hb : atomB g l.r.l
        · refine .stop (.ret [(4, iI 0), (5, iB false)]) (wpQ_way (q34_l0a _ _ z (syms g) e k z' (lits ls) e' _ i _) ?_) rfl ?_
          · simp [-Bool.exists_bool, -getElem?_pos, hi', lits_at hl1, hm, hb]
          · dsimp only; rw [hd]; simp [litsB, hb, blkO]
        · have h49 := (atom_codes hb).1
          have hw : IntKind.wrap .i64 ((k : Int) + (l.r.l.length : Int)) = ((k + l.r.l.length : Nat) : Int) := by rw [wr _ (by omega) (by omega)]; omega
          refine .go (i + 1, k + l.r.l.length) (wpQ_way (q34_l0a _ _ z (syms g) e k z' (lits ls) e' _ i _) ?_) ⟨by dsimp only; omega, by dsimp only; omega⟩ (by dsimp only; omega) ?_
          · simp [-Bool.exists_bool, -getElem?_pos, -Int.natCast_add, hi', lits_at hl1, hm, hb, ints_len, hw, wr1 hi (by omega)]
          · dsimp only; rw [hd]
            have h3 : litsB g (l :: ls.drop (i + 1)) = litsB g (ls.drop (i + 1)) := by simp [litsB, hb]
            rw [h3, lenL, ← Nat.add_assoc]
      · have e1 : i = ls.length := by omega
        subst e1
        refine .stop (.exit 0 [(0, iG z g e), (6, iI k), (9, iL z' ls e'), (10, iI ls.length), (11, iI ls.length)]) (wpQ_way (q34_l0a _ _ z (syms g) e k z' (lits ls) e' _ _ _) (by simp)) rfl ?_
        simp [blkO, litsB, lenL]) x hx
  have h2 : evP F (Go.Ab.W F) (JW F d34 []) d34 [] [1,1,0,1] [(0, iG z g e), (6, iI 0), (9, iL z' ls e'), (10, iI ls.length), (11, iI 0)] = _ := h1 (0, 0) ⟨Nat.zero_le _, Nat.le_refl _⟩
  rw [List.drop_zero, Nat.zero_add] at h2
  cases h : litsB g ls
  · rw [h] at h2
    simp only [Bool.false_eq_true, if_false] at h2
    simp [-Bool.exists_bool, lits_len, h2]
  · rw [h] at h2
    simp only [if_true] at h2
    simp [-Bool.exists_bool, lits_len, h2]
theorem w_rowsmay (z z' : Bool) (g : List Sym) (e e' : List D) {ts : List Row} (hl : ts.length ≤ 1000) : C 35 [iG z g e, iR z' ts e'] = some (.tup [iI (if rowsB g ts = true then (lenR ts : Int) else 0), iB (rowsB g ts)], [iG z g e, iR z' ts e']) := by
  refine wfn (lk := []) rfl rfl (fnW_way (q35 _ _ z (syms g) e z' (rws ts) e' _) ?_)
  cases ts with
  | nil =>
    have h2 : evP F (Go.Ab.W F) (JW F d35 []) d35 [] [1,1,0,1] [(0, iG z g e), (6, iI 0), (7, iI 0), (12, iR z' [] e'), (13, iI 0), (14, iI 0)] = some (.norm [(0, iG z g e), (6, iI 0), (7, iI 0), (12, iR z' [] e'), (13, iI 0), (14, iI 0)]) :=
      blk_fun (F := F) (d := d35) (lk := []) (p := [1,1,0,1,0,0]) (p0 := [1,1,0,1]) (id := 0) (by kernel_rfl) (st := fun (_ : Unit) => [(0, iG z g e), (6, iI 0), (7, iI 0), (12, iR z' [] e'), (13, iI 0), (14, iI 0)]) (I := fun _ => True) (μ := fun _ => 0) (res := fun _ => .norm [(0, iG z g e), (6, iI 0), (7, iI 0), (12, iR z' [] e'), (13, iI 0), (14, iI 0)])
        (fun _ _ => .stop (.exit 0 [(0, iG z g e), (6, iI 0), (7, iI 0), (12, iR z' [] e'), (13, iI 0), (14, iI 0)]) (wpQ_way (q35_l0a _ _ z (syms g) e 0 0 z' (rws []) e' _ _ _) (by simp)) rfl (by simp [blkO])) () trivial
    simp only [iR, rws_nil] at h2
    simp [-Bool.exists_bool, rws_nil, rowsB, lenR, h2]
  | cons r0 tl =>
    have hsp : ∀ n : Nat, n = termsN g r0.l → rowsB g (r0 :: tl) = rowsF g n (r0 :: tl) := fun n h => by rw [h]; rfl
    have h1 := fun x hx => blk_fun (F := F) (d := d35) (lk := []) (p := [1,1,0,1,0,0]) (p0 := [1,1,0,1]) (id := 0) (by kernel_rfl) (st := fun (x : Nat × Nat) => [(0, iG z g e), (6, iI x.2), (7, iI (if x.1 = 0 then 0 else (termsN g r0.l : Int))), (12, iR z' (r0 :: tl) e'), (13, iI (r0 :: tl).length), (14, iI x.1)]) (I := fun x => x.1 ≤ (r0 :: tl).length ∧ x.2 ≤ 48 * x.1) (μ := fun x => (r0 :: tl).length - x.1)
      (res := fun x => if rowsF g (termsN g r0.l) ((r0 :: tl).drop x.1) = true then .norm [(0, iG z g e), (6, iI (x.2 + lenR ((r0 :: tl).drop x.1) : Nat)), (7, iI (termsN g r0.l)), (12, iR z' (r0 :: tl) e'), (13, iI (r0 :: tl).length), (14, iI (r0 :: tl).length)] else .ret [(4, iI 0), (5, iB false)])
      (fun x hx => by
        obtain ⟨i, k⟩ := x
        obtain ⟨hx1, hx2⟩ := hx
        dsimp only at hx1 hx2
        by_cases hi : i < (r0 :: tl).length
        · obtain ⟨r, hr1⟩ := at_lt hi
          have hd : (r0 :: tl).drop i = r :: (r0 :: tl).drop (i + 1) := by
            rw [List.drop_eq_getElem_cons hi]
            rw [List.getElem?_eq_getElem hi] at hr1
            cases hr1; rfl
          have h0r : i = 0 → r = r0 := fun h => by subst h; simp at hr1; exact hr1.symm
          have hm := w_row z r.z g e r.e r.l
          have hi' : (i : Int) < (r0 :: tl).length := by omega
          generalize r0 :: tl = ts at *
          cases hb : rowB g r.l
          · refine .stop (.ret [(4, iI 0), (5, iB false)]) (wpQ_way (q35_l0a _ _ z (syms g) e k _ z' (rws ts) e' _ i _) ?_) rfl ?_
            · rw [hb] at hm
              simp [-Bool.exists_bool, -getElem?_pos, hi', rws_at hr1, hm]
            · dsimp only; rw [hd]; simp [rowsF, hb, blkO]
          · have h48 := rowB_len hb
            rw [hb] at hm
            by_cases hn : termsN g r.l = termsN g r0.l
            · have hw : IntKind.wrap .i64 ((k : Int) + (r.l.length : Int)) = ((k + r.l.length : Nat) : Int) := by rw [wr _ (by omega) (by omega)]; omega
              refine .go (i + 1, k + r.l.length) (wpQ_way (q35_l0a _ _ z (syms g) e k _ z' (rws ts) e' _ i _) ?_) ⟨by dsimp only; omega, by dsimp only; omega⟩ (by dsimp only; omega) ?_
              · by_cases h0 : i = 0
                · simp [-Bool.exists_bool, -getElem?_pos, -Int.natCast_add, hi', rws_at hr1, hm, ints_len, hw, wr1 hi (by omega), hn, h0] at hr1 ⊢
                  subst h0
                  simp [-Bool.exists_bool, -getElem?_pos, -Int.natCast_add, hi', rws_at hr1, hm, ints_len, hw, wr1 hi (by omega), hn]
                  exact ⟨hi, wr _ (by omega) (by omega)⟩
                · simp [-Bool.exists_bool, -getElem?_pos, -Int.natCast_add, hi', rws_at hr1, hm, ints_len, hw, wr1 hi (by omega), hn, h0]
              · dsimp only; rw [hd]
                have h3 : rowsF g (termsN g r0.l) (r :: ts.drop (i + 1)) = rowsF g (termsN g r0.l) (ts.drop (i + 1)) := by simp [rowsF, hb, hn]
                rw [h3, lenR, ← Nat.add_assoc]
            · have h0 : ¬ i = 0 := fun h => hn (by rw [h0r h])
              have hn' : ¬ (termsN g r.l : Int) = termsN g r0.l := by omega
              refine .stop (.ret [(4, iI 0), (5, iB false)]) (wpQ_way (q35_l0a _ _ z (syms g) e k _ z' (rws ts) e' _ i _) ?_) rfl ?_
              · simp [-Bool.exists_bool, -getElem?_pos, hi', rws_at hr1, hm, h0, hn']
              · dsimp only; rw [hd]; simp [rowsF, hb, hn, blkO]
        · have e1 : i = (r0 :: tl).length := by omega
          have h0 : ¬ i = 0 := by simp at e1; omega
          refine .stop (.exit 0 [(0, iG z g e), (6, iI k), (7, iI (termsN g r0.l)), (12, iR z' (r0 :: tl) e'), (13, iI (r0 :: tl).length), (14, iI (r0 :: tl).length)]) (wpQ_way (q35_l0a _ _ z (syms g) e k _ z' (rws (r0 :: tl)) e' _ _ _) ?_) rfl ?_
          · subst e1; simp
          · subst e1; simp [blkO, rowsF, lenR]) x hx
    have h2 : evP F (Go.Ab.W F) (JW F d35 []) d35 [] [1,1,0,1] [(0, iG z g e), (6, iI 0), (7, iI 0), (12, iR z' (r0 :: tl) e'), (13, iI (r0 :: tl).length), (14, iI 0)] = _ := h1 (0, 0) ⟨Nat.zero_le _, Nat.le_refl _⟩
    rw [List.drop_zero, Nat.zero_add, ← hsp _ rfl] at h2
    generalize r0 :: tl = ts at *
    cases h : rowsB g ts
    · rw [h] at h2
      simp only [Bool.false_eq_true, if_false] at h2
      simp [-Bool.exists_bool, rws_len, h2]
    · rw [h] at h2
      simp only [if_true] at h2
      simp [-Bool.exists_bool, rws_len, h2]
theorem w_clmay (z : Bool) (g : List Sym) (e : List D) (c : Cl) : C 12 [iG z g e, iC c] = some (iB (clB g c), [iG z g e, iC c]) := by
  refine wfn (lk := []) rfl rfl (fnW_way (q12 _ _ z (syms g) e c.lz (lits c.ls) c.le c.tz (rws c.ts) c.te c.cz (lits c.cs) c.ce _) ?_)
  have h1 := w_may z g e
  cases hg : sigB g
  · simp [-Bool.exists_bool, h1, hg, clB]
  by_cases l1 : c.ls.length ≤ 5
  rotate_left
  · have l1' : 5 < (c.ls.length : Int) := by omega
    simp [-Bool.exists_bool, h1, hg, clB, lits_len, l1, l1']
  by_cases l2 : c.ts.length ≤ 3
  rotate_left
  · have l1' : ¬ 5 < (c.ls.length : Int) := by omega
    have l2' : 3 < (c.ts.length : Int) := by omega
    simp [-Bool.exists_bool, h1, hg, clB, lits_len, rws_len, l1, l1', l2, l2']
  by_cases l3 : c.cs.length ≤ 3
  rotate_left
  · have l1' : ¬ 5 < (c.ls.length : Int) := by omega
    have l2' : ¬ 3 < (c.ts.length : Int) := by omega
    have l3' : 3 < (c.cs.length : Int) := by omega
    simp [-Bool.exists_bool, h1, hg, clB, lits_len, rws_len, l1, l1', l2, l2', l3, l3']
  have l1' : ¬ 5 < (c.ls.length : Int) := by omega
  have l2' : ¬ 3 < (c.ts.length : Int) := by omega
  have l3' : ¬ 3 < (c.cs.length : Int) := by omega
  have h2 := w_litsmay z c.lz g e c.le (ls := c.ls) (by omega)
  have h3 := w_rowsmay z c.tz g e c.te (ts := c.ts) (by omega)
  have h4 := w_litsmay z c.cz g e c.ce (ls := c.cs) (by omega)
  cases b1 : litsB g c.ls
  · rw [b1] at h2
    cases b2 : rowsB g c.ts <;> cases b3 : litsB g c.cs <;> simp [-Bool.exists_bool, h1, hg, clB, lits_len, rws_len, l1, l1', l2, l2', l3, l3', h2, h3, h4, b1, b2, b3]
  cases b2 : rowsB g c.ts
  · rw [b2] at h3
    cases b3 : litsB g c.cs <;> simp [-Bool.exists_bool, h1, hg, clB, lits_len, rws_len, l1, l1', l2, l2', l3, l3', h2, h3, h4, b1, b2, b3]
  cases b3 : litsB g c.cs
  · simp [-Bool.exists_bool, h1, hg, clB, lits_len, rws_len, l1, l1', l2, l2', l3, l3', h2, h3, h4, b1, b2, b3]
  have k1 := lenL_le b1
  have k3 := lenL_le b3
  have k2 : lenR c.ts ≤ 48 * c.ts.length := by
    cases ht : c.ts with
    | nil => simp [lenR]
    | cons r tl => rw [ht] at b2; exact lenR_le b2
  rw [b1] at h2; rw [b2] at h3; rw [b3] at h4
  simp only [if_true] at h2 h3 h4
  have hw : IntKind.wrap .i64 (IntKind.wrap .i64 ((lenL c.ls : Int) + (lenR c.ts : Int)) + (lenL c.cs : Int)) = ((lenL c.ls + lenR c.ts + lenL c.cs : Nat) : Int) := by
    rw [wr ((lenL c.ls : Int) + (lenR c.ts : Int)) (by omega) (by omega), wr _ (by omega) (by omega)]; omega
  by_cases k : lenL c.ls + lenR c.ts + lenL c.cs ≤ 240
  · have k' : ((lenL c.ls + lenR c.ts + lenL c.cs : Nat) : Int) ≤ 240 := by omega
    simp [-Bool.exists_bool, -Int.natCast_add, h1, hg, clB, lits_len, rws_len, l1, l1', l2, l2', l3, l3', h2, h3, h4, b1, b2, b3, hw, k, k']
  · have k' : ¬ ((lenL c.ls + lenR c.ts + lenL c.cs : Nat) : Int) ≤ 240 := by omega
    simp [-Bool.exists_bool, -Int.natCast_add, h1, hg, clB, lits_len, rws_len, l1, l1', l2, l2', l3, l3', h2, h3, h4, b1, b2, b3, hw, k, k']
    omega
end Go.Proofs.YtmldmhbdeejcnaaDoor.Ab

/- Literals, clauses: what the reference's functions hand back; weights; copies. For every input; no condition. -/
set_option linter.unusedVariables false
set_option linter.unusedSimpArgs false
set_option maxRecDepth 100000
namespace Go.Proofs.YtmldmhbdeejcnaaDoor.Ab
open Go Go.Ab Go.Qu Go.Proofs
attribute [local simp] and_assoc
theorem atom_sig {g : List Sym} {a : List Int} (h : atomB g a = true) : sigB g = true := by
  cases a with
  | nil => simp [atomB] at h
  | cons p r =>
    simp only [atomB] at h
    split at h
    · cases h
    · split at h
      · cases h
      · simp only [Bool.and_eq_true] at h; exact h.1.2
/-- All rows of a clause. -/
def rowsOf (c : Cl) : List Row := c.ls.map (·.r) ++ c.ts ++ c.cs.map (·.r)
theorem w_rrows {c : Cl} (l1 : c.ls.length ≤ 1000) (l2 : c.ts.length ≤ 1000) (l3 : c.cs.length ≤ 1000) : C 76 [iC c] = some (.own (rowsOf c).isEmpty 23 1 (rws (rowsOf c)), [iC c]) := by
  refine wfn (lk := []) rfl rfl (fnW_way (q76 _ _ c.lz (lits c.ls) c.le c.tz (rws c.ts) c.te c.cz (lits c.cs) c.ce _) ?_)
  have h1 := blk_fun (F := F) (d := d76) (lk := []) (p := [1,1,0,1,0,0]) (p0 := [1,1,0,1]) (id := 0) (by kernel_rfl) (st := fun (i : Nat) => [(1, .dbox 39 0 [.sl 2 c.lz (lits c.ls) c.le, .sl 1 c.tz (rws c.ts) c.te, .sl 2 c.cz (lits c.cs) c.ce]), (3, .own (c.ls.take i).isEmpty 23 1 (rws ((c.ls.take i).map (·.r)))), (4, iI i)]) (I := fun i => i ≤ c.ls.length) (μ := fun i => c.ls.length - i)
    (res := fun _ => .norm [(1, .dbox 39 0 [.sl 2 c.lz (lits c.ls) c.le, .sl 1 c.tz (rws c.ts) c.te, .sl 2 c.cz (lits c.cs) c.ce]), (3, .own c.ls.isEmpty 23 1 (rws (c.ls.map (·.r)))), (4, iI c.ls.length)])
    (fun i hi => by
      by_cases h : i < c.ls.length
      · obtain ⟨l, hl⟩ := at_lt h
        have e1 : c.ls.take (i + 1) = c.ls.take i ++ [l] := by rw [List.take_add_one, hl]; rfl
        have e2 : (rws ((c.ls.take i).map (·.r))).length = i := by rw [rws_len, List.length_map, List.length_take]; omega
        have hi' : (i : Int) < c.ls.length := by omega
        refine .go (i + 1) (wpQ_way (q76_l0a _ _ c.lz (lits c.ls) c.le c.tz (rws c.ts) c.te c.cz (lits c.cs) c.ce _ _ i _) ?_) h (by omega) rfl
        simp [-Bool.exists_bool, -getElem?_pos, -Int.natCast_add, -List.map_take, lits_len, hi', lits_at hl, wr1 h (by omega), e1, rws_append, rws_cons, rws_nil, e2]
        omega
      · have e1 : i = c.ls.length := by omega
        subst e1
        refine .stop (.exit 0 [(1, .dbox 39 0 [.sl 2 c.lz (lits c.ls) c.le, .sl 1 c.tz (rws c.ts) c.te, .sl 2 c.cz (lits c.cs) c.ce]), (3, .own c.ls.isEmpty 23 1 (rws (c.ls.map (·.r)))), (4, iI c.ls.length)]) (wpQ_way (q76_l0a _ _ c.lz (lits c.ls) c.le c.tz (rws c.ts) c.te c.cz (lits c.cs) c.ce _ _ _ _) ?_) rfl rfl
        simp [lits_len]) 0 (Nat.zero_le _)
  have h2 := blk_fun (F := F) (d := d76) (lk := []) (p := [1,1,1,0,1,0,0]) (p0 := [1,1,1,0,1]) (id := 2) (by kernel_rfl) (st := fun (i : Nat) => [(1, .dbox 39 0 [.sl 2 c.lz (lits c.ls) c.le, .sl 1 c.tz (rws c.ts) c.te, .sl 2 c.cz (lits c.cs) c.ce]), (3, .own (c.ls.isEmpty && (c.ts.take i).isEmpty) 23 1 (rws (c.ls.map (·.r) ++ c.ts.take i))), (5, iI i)]) (I := fun i => i ≤ c.ts.length) (μ := fun i => c.ts.length - i)
    (res := fun _ => .norm [(1, .dbox 39 0 [.sl 2 c.lz (lits c.ls) c.le, .sl 1 c.tz (rws c.ts) c.te, .sl 2 c.cz (lits c.cs) c.ce]), (3, .own (c.ls.isEmpty && c.ts.isEmpty) 23 1 (rws (c.ls.map (·.r) ++ c.ts))), (5, iI c.ts.length)])
    (fun i hi => by
      by_cases h : i < c.ts.length
      · obtain ⟨l, hl⟩ := at_lt h
        have e1 : c.ts.take (i + 1) = c.ts.take i ++ [l] := by rw [List.take_add_one, hl]; rfl
        have e2 : (rws (c.ls.map (·.r) ++ c.ts.take i)).length = c.ls.length + i := by rw [rws_len, List.length_append, List.length_map, List.length_take]; omega
        have hi' : (i : Int) < c.ts.length := by omega
        refine .go (i + 1) (wpQ_way (q76_l2b _ _ c.lz (lits c.ls) c.le c.tz (rws c.ts) c.te c.cz (lits c.cs) c.ce _ _ i _) ?_) h (by omega) rfl
        have e3 : rws (c.ls.map (·.r) ++ c.ts.take (i + 1)) = rws (c.ls.map (·.r) ++ c.ts.take i) ++ [.sl 1 l.z (ints l.l) l.e] := by rw [e1, ← List.append_assoc, rws_append]; rfl
        simp [-Bool.exists_bool, -getElem?_pos, -Int.natCast_add, -List.map_take, rws_len, hi', rws_at hl, wr1 h (by omega), e2, e3]
        exact ⟨by omega, by omega, fun _ he => by rw [he] at h; simp at h⟩
      · have e1 : i = c.ts.length := by omega
        subst e1
        refine .stop (.exit 2 [(1, .dbox 39 0 [.sl 2 c.lz (lits c.ls) c.le, .sl 1 c.tz (rws c.ts) c.te, .sl 2 c.cz (lits c.cs) c.ce]), (3, .own (c.ls.isEmpty && c.ts.isEmpty) 23 1 (rws (c.ls.map (·.r) ++ c.ts))), (5, iI c.ts.length)]) (wpQ_way (q76_l2b _ _ c.lz (lits c.ls) c.le c.tz (rws c.ts) c.te c.cz (lits c.cs) c.ce _ _ _ _) ?_) rfl rfl
        simp [rws_len]) 0 (Nat.zero_le _)
  have h3 := blk_fun (F := F) (d := d76) (lk := []) (p := [1,1,1,1,0,1,0,0]) (p0 := [1,1,1,1,0,1]) (id := 4) (by kernel_rfl) (st := fun (i : Nat) => [(1, .dbox 39 0 [.sl 2 c.lz (lits c.ls) c.le, .sl 1 c.tz (rws c.ts) c.te, .sl 2 c.cz (lits c.cs) c.ce]), (3, .own ((c.ls.isEmpty && c.ts.isEmpty) && (c.cs.take i).isEmpty) 23 1 (rws ((c.ls.map (·.r) ++ c.ts) ++ (c.cs.take i).map (·.r)))), (6, iI i)]) (I := fun i => i ≤ c.cs.length) (μ := fun i => c.cs.length - i)
    (res := fun _ => .norm [(1, .dbox 39 0 [.sl 2 c.lz (lits c.ls) c.le, .sl 1 c.tz (rws c.ts) c.te, .sl 2 c.cz (lits c.cs) c.ce]), (3, .own ((c.ls.isEmpty && c.ts.isEmpty) && c.cs.isEmpty) 23 1 (rws ((c.ls.map (·.r) ++ c.ts) ++ c.cs.map (·.r)))), (6, iI c.cs.length)])
    (fun i hi => by
      by_cases h : i < c.cs.length
      · obtain ⟨l, hl⟩ := at_lt h
        have e1 : c.cs.take (i + 1) = c.cs.take i ++ [l] := by rw [List.take_add_one, hl]; rfl
        have e2 : (rws ((c.ls.map (·.r) ++ c.ts) ++ (c.cs.take i).map (·.r))).length = c.ls.length + c.ts.length + i := by rw [rws_len, List.length_append, List.length_append, List.length_map, List.length_map, List.length_take]; omega
        have hi' : (i : Int) < c.cs.length := by omega
        refine .go (i + 1) (wpQ_way (q76_l4b _ _ c.lz (lits c.ls) c.le c.tz (rws c.ts) c.te c.cz (lits c.cs) c.ce _ _ i _) ?_) h (by omega) rfl
        have e3 : rws ((c.ls.map (·.r) ++ c.ts) ++ (c.cs.take (i + 1)).map (·.r)) = rws ((c.ls.map (·.r) ++ c.ts) ++ (c.cs.take i).map (·.r)) ++ [.sl 1 l.r.z (ints l.r.l) l.r.e] := by rw [e1, List.map_append, ← List.append_assoc, rws_append]; rfl
        simp [-Bool.exists_bool, -getElem?_pos, -Int.natCast_add, -List.map_take, -List.append_assoc, lits_len, hi', lits_at hl, wr1 h (by omega), e2, e3]
        exact ⟨by omega, by omega, fun _ _ he => by rw [he] at h; simp at h⟩
      · have e1 : i = c.cs.length := by omega
        subst e1
        refine .stop (.exit 4 [(1, .dbox 39 0 [.sl 2 c.lz (lits c.ls) c.le, .sl 1 c.tz (rws c.ts) c.te, .sl 2 c.cz (lits c.cs) c.ce]), (3, .own ((c.ls.isEmpty && c.ts.isEmpty) && c.cs.isEmpty) 23 1 (rws ((c.ls.map (·.r) ++ c.ts) ++ c.cs.map (·.r)))), (6, iI c.cs.length)]) (wpQ_way (q76_l4b _ _ c.lz (lits c.ls) c.le c.tz (rws c.ts) c.te c.cz (lits c.cs) c.ce _ _ _ _) ?_) rfl rfl
        simp [lits_len]) 0 (Nat.zero_le _)
  have h1' : evP F (Go.Ab.W F) (JW F d76 []) d76 [] [1,1,0,1] [(1, .dbox 39 0 [.sl 2 c.lz (lits c.ls) c.le, .sl 1 c.tz (rws c.ts) c.te, .sl 2 c.cz (lits c.cs) c.ce]), (3, .own true 23 1 []), (4, iI 0)] = _ := h1
  have h2' := h2
  simp only [List.take_zero, List.append_nil, List.isEmpty_nil, Bool.and_true, Int.natCast_zero] at h2'
  have h3' := h3
  simp only [List.take_zero, List.map_nil, List.append_nil, List.isEmpty_nil, Bool.and_true, Int.natCast_zero] at h3'
  have hz : (rowsOf c).isEmpty = ((c.ls.isEmpty && c.ts.isEmpty) && c.cs.isEmpty) := by
    unfold rowsOf
    cases c.ls <;> cases c.ts <;> cases c.cs <;> simp
  refine ⟨_, _, _, _, _, _, _, _, _, _, _, _, h1', _, _, _, _, _, _, _, _, _, _, _, _, h2', _, _, _, _, _, _, _, _, _, _, _, _, h3', ?_⟩
  rw [hz]; rfl
end Go.Proofs.YtmldmhbdeejcnaaDoor.Ab

/- Clauses: copies; the same. For every input; no condition. -/
set_option linter.unusedVariables false
set_option linter.unusedSimpArgs false
set_option maxRecDepth 100000
namespace Go.Proofs.YtmldmhbdeejcnaaDoor.Ab
open Go Go.Ab Go.Qu Go.Proofs
attribute [local simp] and_assoc
def LitsIn (ls : List LitR) : Prop := ls.length * 32 ≤ 140737488351232 ∧ ∀ l ∈ ls, Len l.r.l
/-- What a clause is made of. -/
structure ClIn (c : Cl) : Prop where
  ls : LitsIn c.ls
  most : c.ts.length * 24 ≤ 140737488351232
  rows : ∀ r ∈ c.ts, Len r.l
  cs : LitsIn c.cs
end Go.Proofs.YtmldmhbdeejcnaaDoor.Ab

/- Clauses in their own form: each part once, variables numbered anew; what they are the same in. Plain lists; no condition. -/
set_option linter.unusedVariables false
set_option linter.unusedSimpArgs false
namespace Go.Qu
open Go Go.Ab

/-! ### Each once -/
/-- Rows of things of which none has the key of one ahead of it. -/
def onceK {α β : Type} [DecidableEq β] (k : α → β) : List α → List α → List α
  | out, [] => out
  | out, x :: r => if k x ∈ out.map k then onceK k out r else onceK k (out ++ [x]) r
theorem once_map {α β : Type} [DecidableEq β] (k : α → β) : ∀ (r out : List α), (onceK k out r).map k = onceK id (out.map k) (r.map k)
  | [], out => by simp [onceK]
  | x :: r, out => by
    simp only [onceK, List.map_cons, id_eq, List.map_id]
    by_cases h : k x ∈ out.map k
    · rw [if_pos h, if_pos (by simpa using h)]; exact once_map k r out
    · rw [if_neg h, if_neg (by simpa using h), once_map k r (out ++ [x])]; simp
theorem mem_once {β : Type} [DecidableEq β] : ∀ (r out : List β) (y : β), y ∈ onceK id out r ↔ y ∈ out ∨ y ∈ r
  | [], out, y => by simp [onceK]
  | x :: r, out, y => by
    simp only [onceK, id_eq, List.map_id]
    by_cases h : x ∈ out
    · rw [if_pos (by simpa using h), mem_once r out y]
      constructor
      · rintro (h1 | h1)
        · exact .inl h1
        · exact .inr (by simp [h1])
      · rintro (h1 | h1)
        · exact .inl h1
        · rcases List.mem_cons.1 h1 with h2 | h2
          · exact .inl (h2 ▸ h)
          · exact .inr h2
    · rw [if_neg (by simpa using h), mem_once r (out ++ [x]) y]; simp [or_assoc]
theorem once_nodup {β : Type} [DecidableEq β] : ∀ (r out : List β), out.Nodup → (onceK id out r).Nodup
  | [], out, h => by simpa [onceK] using h
  | x :: r, out, h => by
    simp only [onceK, id_eq, List.map_id]
    by_cases h1 : x ∈ out
    · rw [if_pos (by simpa using h1)]; exact once_nodup r out h
    · rw [if_neg (by simpa using h1)]
      refine once_nodup r _ ?_
      rw [List.nodup_append]
      exact ⟨h, by simp, fun a ha b hb => by simp at hb; subst hb; exact fun e => h1 (e ▸ ha)⟩
theorem once_same {β : Type} [DecidableEq β] : ∀ (r out : List β), (out ++ r).Nodup → onceK id out r = out ++ r
  | [], out, h => by simp [onceK]
  | x :: r, out, h => by
    have h1 : x ∉ out := fun hx => by
      rw [List.nodup_append] at h
      exact h.2.2 x hx x (by simp) rfl
    simp only [onceK, id_eq, List.map_id]
    rw [if_neg (by simpa using h1), once_same r (out ++ [x]) (by simpa using h)]; simp
/-- What is told of things alike is the same once through a way that holds them apart. -/
theorem once_inj {β γ : Type} [DecidableEq β] [DecidableEq γ] (f : β → γ) : ∀ (r out : List β), (∀ a ∈ out ++ r, ∀ b ∈ out ++ r, f a = f b → a = b) → onceK id (out.map f) (r.map f) = (onceK id out r).map f
  | [], out, h => by simp [onceK]
  | x :: r, out, h => by
    simp only [onceK, List.map_cons, id_eq, List.map_id]
    by_cases h1 : x ∈ out
    · rw [if_pos (List.mem_map_of_mem h1), if_pos h1]
      exact once_inj f r out (fun a ha b hb => h a (by simp at ha ⊢; rcases ha with h | h <;> simp [h]) b (by simp at hb ⊢; rcases hb with h | h <;> simp [h]))
    · rw [if_neg, if_neg h1]
      · have := once_inj f r (out ++ [x]) (fun a ha b hb => h a (by simpa using ha) b (by simpa using hb))
        rw [List.map_append] at this
        exact this
      · intro hm
        obtain ⟨y, hy, he⟩ := List.mem_map.1 hm
        have := h y (by simp [hy]) x (by simp) he
        exact h1 (this ▸ hy)
theorem once_len {α β : Type} [DecidableEq β] (k : α → β) : ∀ (r out : List α), (onceK k out r).length ≤ out.length + r.length
  | [], out => by simp [onceK]
  | x :: r, out => by
    simp only [onceK]
    split
    · have := once_len k r out; simp; omega
    · have := once_len k r (out ++ [x]); simp at this ⊢; omega
theorem once_sub {α β : Type} [DecidableEq β] (k : α → β) : ∀ (r out : List α) (y : α), y ∈ onceK k out r → y ∈ out ∨ y ∈ r
  | [], out, y, h => by simpa [onceK] using h
  | x :: r, out, y, h => by
    simp only [onceK] at h
    split at h
    · rcases once_sub k r out y h with h | h
      · exact .inl h
      · exact .inr (by simp [h])
    · rcases once_sub k r _ y h with h | h
      · simp at h; rcases h with h | h
        · exact .inl h
        · exact .inr (by simp [h])
      · exact .inr (by simp [h])
/-! ### Variables numbered anew -/
def addS (s : List Int) (c : Int) : List Int := if 0 ≤ c then s else if c ∈ s then s else s ++ [c]
def seenR (s : List Int) (r : List Int) : List Int := r.foldl addS s
def seenRs (s : List Int) (rs : List (List Int)) : List Int := rs.foldl seenR s
def renC (s : List Int) (c : Int) : Int := if 0 ≤ c then c else -1 - (s.idxOf c : Nat)
def renR (s : List Int) (r : List Int) : List Int := r.map (renC s)
theorem mem_addS {s : List Int} {c x : Int} : x ∈ addS s c ↔ x ∈ s ∨ (x = c ∧ c < 0) := by
  unfold addS
  split
  · constructor
    · exact .inl
    · rintro (h | ⟨h, h1⟩)
      · exact h
      · omega
  · split
    · constructor
      · exact .inl
      · rintro (h | ⟨h, h1⟩)
        · exact h
        · subst h; assumption
    · simp; constructor
      · rintro (h | h)
        · exact .inl h
        · exact .inr ⟨h, by omega⟩
      · rintro (h | ⟨h, h1⟩)
        · exact .inl h
        · exact .inr h
theorem mem_seenR : ∀ {r s : List Int} {x : Int}, x ∈ seenR s r ↔ x ∈ s ∨ (x ∈ r ∧ x < 0)
  | [], s, x => by simp [seenR]
  | c :: r, s, x => by
    have := mem_seenR (r := r) (s := addS s c) (x := x)
    rw [show seenR s (c :: r) = seenR (addS s c) r from rfl, this, mem_addS]
    constructor
    · rintro ((h | ⟨h, h1⟩) | ⟨h, h1⟩)
      · exact .inl h
      · exact .inr ⟨by simp [h], by omega⟩
      · exact .inr ⟨by simp [h], h1⟩
    · rintro (h | ⟨h, h1⟩)
      · exact .inl (.inl h)
      · rcases List.mem_cons.1 h with h2 | h2
        · exact .inl (.inr ⟨h2, by omega⟩)
        · exact .inr ⟨h2, h1⟩
theorem mem_seenRs : ∀ {rs : List (List Int)} {s : List Int} {x : Int}, x ∈ seenRs s rs ↔ x ∈ s ∨ (x < 0 ∧ ∃ r ∈ rs, x ∈ r)
  | [], s, x => by simp [seenRs]
  | r :: rs, s, x => by
    have := mem_seenRs (rs := rs) (s := seenR s r) (x := x)
    rw [show seenRs s (r :: rs) = seenRs (seenR s r) rs from rfl, this, mem_seenR]
    constructor
    · rintro ((h | ⟨h, h1⟩) | ⟨h1, t, ht, h⟩)
      · exact .inl h
      · exact .inr ⟨h1, r, by simp, h⟩
      · exact .inr ⟨h1, t, by simp [ht], h⟩
    · rintro (h | ⟨h1, t, ht, h⟩)
      · exact .inl (.inl h)
      · rcases List.mem_cons.1 ht with h2 | h2
        · subst h2; exact .inl (.inr ⟨h, h1⟩)
        · exact .inr ⟨h1, t, h2, h⟩
theorem nodup_addS {s : List Int} {c : Int} (h : s.Nodup) : (addS s c).Nodup := by
  unfold addS
  split
  · exact h
  · split
    · exact h
    · rename_i h1
      rw [List.nodup_append]
      exact ⟨h, by simp, fun a ha b hb => by simp at hb; subst hb; exact fun e => h1 (e ▸ ha)⟩
theorem nodup_seenR : ∀ {r s : List Int}, s.Nodup → (seenR s r).Nodup
  | [], s, h => h
  | c :: r, s, h => nodup_seenR (r := r) (nodup_addS h)
theorem nodup_seenRs : ∀ {rs : List (List Int)} {s : List Int}, s.Nodup → (seenRs s rs).Nodup
  | [], s, h => h
  | r :: rs, s, h => nodup_seenRs (rs := rs) (nodup_seenR h)
/-- What is seen later stands behind. -/
theorem pre_addS (s : List Int) (c : Int) : ∃ t, addS s c = s ++ t := by
  unfold addS
  split
  · exact ⟨[], by simp⟩
  · split
    · exact ⟨[], by simp⟩
    · exact ⟨_, rfl⟩
theorem pre_seenR : ∀ (r s : List Int), ∃ t, seenR s r = s ++ t
  | [], s => ⟨[], by simp [seenR]⟩
  | c :: r, s => by
    obtain ⟨t, ht⟩ := pre_addS s c
    obtain ⟨u, hu⟩ := pre_seenR r (addS s c)
    exact ⟨t ++ u, by rw [show seenR s (c :: r) = seenR (addS s c) r from rfl, hu, ht, List.append_assoc]⟩
theorem pre_seenRs : ∀ (rs : List (List Int)) (s : List Int), ∃ t, seenRs s rs = s ++ t
  | [], s => ⟨[], by simp [seenRs]⟩
  | r :: rs, s => by
    obtain ⟨t, ht⟩ := pre_seenR r s
    obtain ⟨u, hu⟩ := pre_seenRs rs (seenR s r)
    exact ⟨t ++ u, by rw [show seenRs s (r :: rs) = seenRs (seenR s r) rs from rfl, hu, ht, List.append_assoc]⟩
theorem idx_pre {s : List Int} (t : List Int) {c : Int} (h : c ∈ s) : (s ++ t).idxOf c = s.idxOf c := by
  rw [List.idxOf_append, if_pos h]
theorem ren_pre {s : List Int} (t : List Int) {c : Int} (h : c < 0 → c ∈ s) : renC (s ++ t) c = renC s c := by
  unfold renC
  split
  · rfl
  · rw [idx_pre t (h (by omega))]
theorem renR_pre {s : List Int} (t : List Int) {r : List Int} (h : ∀ c ∈ r, c < 0 → c ∈ s) : renR (s ++ t) r = renR s r :=
  List.map_congr_left fun c hc => ren_pre t (h c hc)
theorem ren_neg (s : List Int) (c : Int) : renC s c < 0 ↔ c < 0 := by unfold renC; split <;> omega
theorem ren_inj {s : List Int} {a b : Int} (ha : a < 0 → a ∈ s) (hb : b < 0 → b ∈ s) (h : renC s a = renC s b) : a = b := by
  by_cases h1 : 0 ≤ a <;> by_cases h2 : 0 ≤ b
  · simpa [renC, h1, h2] using h
  · simp [renC, h1, h2] at h; omega
  · simp [renC, h1, h2] at h; omega
  · simp only [renC, if_neg h1, if_neg h2] at h
    have h3 : s.idxOf a = s.idxOf b := by omega
    have k1 := List.getElem_idxOf (List.idxOf_lt_length_of_mem (ha (by omega)))
    have k2 := List.getElem_idxOf (List.idxOf_lt_length_of_mem (hb (by omega)))
    rw [← k1, ← k2]
    simp only [h3]
theorem renR_inj {s : List Int} : ∀ {a b : List Int}, (∀ c ∈ a, c < 0 → c ∈ s) → (∀ c ∈ b, c < 0 → c ∈ s) → renR s a = renR s b → a = b
  | [], [], _, _, _ => rfl
  | [], _ :: _, _, _, h => by simp [renR] at h
  | _ :: _, [], _, _, h => by simp [renR] at h
  | x :: a, y :: b, ha, hb, h => by
    simp only [renR, List.map_cons, List.cons.injEq] at h
    rw [ren_inj (ha x (by simp)) (hb y (by simp)) h.1, renR_inj (fun c hc => ha c (by simp [hc])) (fun c hc => hb c (by simp [hc])) h.2]
/-- The first so many variables. -/
def firsts (n : Nat) : List Int := (List.range n).map fun (i : Nat) => -1 - (i : Int)
theorem firsts_len (n : Nat) : (firsts n).length = n := by simp [firsts]
theorem firsts_succ (n : Nat) : firsts (n + 1) = firsts n ++ [-1 - (n : Int)] := by simp [firsts, List.range_succ]
theorem mem_firsts {n : Nat} {c : Int} : c ∈ firsts n ↔ c < 0 ∧ -1 - c < n := by
  simp only [firsts, List.mem_map, List.mem_range]
  constructor
  · rintro ⟨i, hi, h⟩; omega
  · intro h; exact ⟨(-1 - c).toNat, by omega, by omega⟩
theorem idx_firsts : ∀ {n : Nat} {c : Int}, c < 0 → -1 - c < n → ((firsts n).idxOf c : Int) = -1 - c
  | 0, c, h, h1 => by omega
  | n + 1, c, h, h1 => by
    rw [firsts_succ, List.idxOf_append]
    by_cases h2 : -1 - c < n
    · rw [if_pos (mem_firsts.2 ⟨h, h2⟩)]; exact idx_firsts h h2
    · rw [if_neg (fun h3 => h2 (mem_firsts.1 h3).2), firsts_len]
      have : c = -1 - (n : Int) := by omega
      subst this
      simp
      omega
/-- Of rows numbered anew the variables are the first ones. -/
theorem seen_ren_add {s : List Int} (t : List Int) {c : Int} (hs : (addS s c ++ t).Nodup) : addS (firsts s.length) (renC (addS s c ++ t) c) = firsts (addS s c).length := by
  unfold addS
  by_cases h0 : 0 ≤ c
  · have : renC (s ++ t) c = c := by simp [renC, h0]
    simp [h0, this]
  · by_cases h : c ∈ s
    · have h1 : renC (s ++ t) c = -1 - (s.idxOf c : Nat) := by simp [renC, h0, idx_pre t h]
      have h2 := List.idxOf_lt_length_of_mem h
      simp only [if_neg h0, if_pos h]
      rw [h1, if_neg (by omega), if_pos (mem_firsts.2 ⟨by omega, by omega⟩)]
    · have h1 : renC ((s ++ [c]) ++ t) c = -1 - (s.length : Nat) := by
        have : ((s ++ [c]) ++ t).idxOf c = s.length := by
          rw [List.append_assoc, List.idxOf_append, if_neg h]; simp
        rw [renC, if_neg h0, this]
      simp only [if_neg h0, if_neg h]
      rw [h1, if_neg (by omega), if_neg (fun h3 => by have := (mem_firsts.1 h3).2; omega), List.length_append, List.length_singleton, firsts_succ]
theorem seen_ren : ∀ (r s t : List Int), seenR (firsts s.length) (renR (seenR s r ++ t) r) = firsts (seenR s r).length ∨ ¬ (seenR s r ++ t).Nodup
  | [], s, t => by simp [seenR, renR]
  | c :: r, s, t => by
    by_cases hn : (seenR s (c :: r) ++ t).Nodup
    · left
      have e1 : seenR s (c :: r) = seenR (addS s c) r := rfl
      rw [e1] at hn ⊢
      obtain ⟨u, hu⟩ := pre_seenR r (addS s c)
      have h1 := seen_ren r (addS s c) t
      rcases h1 with h1 | h1
      · have h2 : addS (firsts s.length) (renC (seenR (addS s c) r ++ t) c) = firsts (addS s c).length := by
          rw [hu, List.append_assoc]
          exact seen_ren_add (u ++ t) (by rw [← List.append_assoc, ← hu]; exact hn)
        rw [← h1, ← h2]; rfl
      · exact absurd hn h1
    · exact .inr hn
theorem seens_ren : ∀ (rs : List (List Int)) (s t : List Int), (seenRs s rs ++ t).Nodup → seenRs (firsts s.length) (rs.map (renR (seenRs s rs ++ t))) = firsts (seenRs s rs).length
  | [], s, t, _ => rfl
  | r :: rs, s, t, hn => by
    have e1 : seenRs s (r :: rs) = seenRs (seenR s r) rs := rfl
    rw [e1] at hn ⊢
    obtain ⟨u, hu⟩ := pre_seenRs rs (seenR s r)
    have h1 := seens_ren rs (seenR s r) t hn
    rcases seen_ren r s (u ++ t) with h2 | h2
    · rw [← List.append_assoc, ← hu] at h2
      rw [← h1, ← h2]; rfl
    · rw [← List.append_assoc, ← hu] at h2; exact absurd hn h2
theorem ren_firsts {n : Nat} {c : Int} (h : c < 0 → -1 - c < n) : renC (firsts n) c = c := by
  unfold renC
  split
  · rfl
  · rw [idx_firsts (by omega) (h (by omega))]; omega
end Go.Qu

/- The normal clause: it may be, it is its own normal one, it weighs no more, its variables are the first ones. Plain lists; no condition. -/
set_option linter.unusedVariables false
set_option linter.unusedSimpArgs false
namespace Go.Qu
open Go Go.Ab

theorem sub_len {α : Type} [DecidableEq α] : ∀ (s t : List α), s.Nodup → (∀ x ∈ s, x ∈ t) → s.length ≤ t.length
  | [], t, _, _ => Nat.zero_le _
  | x :: s, t, hn, hs => by
    have hx := hs x (by simp)
    rw [List.nodup_cons] at hn
    have h1 := sub_len s (t.erase x) hn.2 (fun y hy => by
      have hne : y ≠ x := fun e => hn.1 (e ▸ hy)
      exact (List.mem_erase_of_ne hne).2 (hs y (by simp [hy])))
    rw [List.length_erase_of_mem hx] at h1
    have := List.length_pos_of_mem hx
    simp; omega
abbrev LC := Bool × List Int
def LitR.c (l : LitR) : LC := (l.neg, l.r.l)
structure CC where
  ls : List LC
  ts : List (List Int)
  cs : List LC
deriving DecidableEq
def Cl.c (c : Cl) : CC := ⟨c.ls.map LitR.c, c.ts.map (·.l), c.cs.map LitR.c⟩
def CC.rows (c : CC) : List (List Int) := c.ls.map (·.2) ++ c.ts ++ c.cs.map (·.2)
theorem in_ls {c : CC} {l : LC} (h : l ∈ c.ls) : l.2 ∈ c.rows := by
  rw [CC.rows, List.mem_append, List.mem_append]; exact .inl (.inl (List.mem_map_of_mem h))
theorem in_cs {c : CC} {l : LC} (h : l ∈ c.cs) : l.2 ∈ c.rows := by
  rw [CC.rows, List.mem_append, List.mem_append]; exact .inr (List.mem_map_of_mem h)
def onceC (c : CC) : CC := ⟨onceK id [] c.ls, onceK id [] c.ts, onceK id [] c.cs⟩
def renL (s : List Int) (l : LC) : LC := (l.1, renR s l.2)
def renCC (s : List Int) (c : CC) : CC := ⟨c.ls.map (renL s), c.ts.map (renR s), c.cs.map (renL s)⟩
def seenC (c : CC) : List Int := seenRs [] (onceC c).rows
def normC (c : CC) : CC := renCC (seenC c) (onceC c)
/-! ### What may be -/
def lenI : List (List Int) → Nat
  | [] => 0
  | r :: rs => r.length + lenI rs
def termsB (g : List Sym) (k : Nat) (ts : List (List Int)) : Bool := ts.all fun r => rowB g r && (termsN g r == k)
def tsB (g : List Sym) (ts : List (List Int)) : Bool := match ts with
  | [] => true
  | r :: _ => termsB g (termsN g r) ts
def lsB (g : List Sym) (ls : List LC) : Bool := ls.all fun l => atomB g l.2
def clC (g : List Sym) (c : CC) : Bool := sigB g && (decide (c.ls.length ≤ 5) && (decide (c.ts.length ≤ 3) && (decide (c.cs.length ≤ 3) && (lsB g c.ls && (tsB g c.ts && (lsB g c.cs && decide (lenI c.rows ≤ 240)))))))
theorem lenI_app : ∀ (a b : List (List Int)), lenI (a ++ b) = lenI a + lenI b
  | [], b => by simp [lenI]
  | r :: a, b => by simp [lenI, lenI_app a b]; omega
theorem lenL_c : ∀ (ls : List LitR), lenL ls = lenI ((ls.map LitR.c).map (·.2))
  | [] => rfl
  | l :: ls => by simp [lenL, lenI, lenL_c ls, LitR.c]
theorem lenR_c : ∀ (ts : List Row), lenR ts = lenI (ts.map (·.l))
  | [] => rfl
  | l :: ls => by simp [lenR, lenI, lenR_c ls]
theorem clB_c (g : List Sym) (c : Cl) : clB g c = clC g c.c := by
  have h1 : lenL c.ls + lenR c.ts + lenL c.cs = lenI c.c.rows := by
    rw [CC.rows, lenI_app, lenI_app, lenL_c, lenR_c, lenL_c]; rfl
  have h2 : rowsB g c.ts = tsB g (c.ts.map (·.l)) := by
    cases h : c.ts with
    | nil => rfl
    | cons r ts => simp [rowsB, tsB, rowsF, termsB, List.all_map, Function.comp_def]
  unfold clB clC
  rw [h1, h2]
  simp [Cl.c, litsB, lsB, List.all_map, Function.comp_def, LitR.c]
structure ClOk (g : List Sym) (c : CC) : Prop where
  sg : sigB g = true
  l5 : c.ls.length ≤ 5
  t3 : c.ts.length ≤ 3
  c3 : c.cs.length ≤ 3
  la : ∀ l ∈ c.ls, atomB g l.2 = true
  tr : ∃ k, ∀ r ∈ c.ts, rowB g r = true ∧ termsN g r = k
  ca : ∀ l ∈ c.cs, atomB g l.2 = true
  sum : lenI c.rows ≤ 240
theorem clOk {g : List Sym} {c : CC} : clC g c = true ↔ ClOk g c := by
  unfold clC
  simp only [Bool.and_eq_true, decide_eq_true_eq]
  constructor
  · rintro ⟨h1, h2, h3, h4, h5, h6, h7, h8⟩
    refine ⟨h1, h2, h3, h4, by simpa [lsB] using h5, ?_, by simpa [lsB] using h7, h8⟩
    cases h : c.ts with
    | nil => exact ⟨0, by simp⟩
    | cons r ts =>
      rw [h] at h6
      refine ⟨termsN g r, fun x hx => ?_⟩
      have := List.all_eq_true.1 h6 x hx
      simpa using this
  · rintro ⟨h1, h2, h3, h4, h5, ⟨k, h6⟩, h7, h8⟩
    refine ⟨h1, h2, h3, h4, by simpa [lsB] using h5, ?_, by simpa [lsB] using h7, h8⟩
    cases h : c.ts with
    | nil => rfl
    | cons r ts =>
      rw [h] at h6
      refine List.all_eq_true.2 fun x hx => ?_
      have := h6 x hx
      have := h6 r (by simp)
      simp_all
/-- Codes in rows of a clause that may be. -/
theorem cl_codes {g : List Sym} {c : CC} (h : ClOk g c) : ∀ r ∈ c.rows, ∀ x ∈ r, -24 ≤ x ∧ x < g.length := by
  intro r hr x hx
  rw [CC.rows, List.mem_append, List.mem_append] at hr
  rcases hr with (hr | hr) | hr
  · obtain ⟨l, hl, rfl⟩ := List.mem_map.1 hr
    exact (atom_codes (h.la l hl)).2.1 x hx
  · obtain ⟨k, hk⟩ := h.tr
    exact row_codes (hk r hr).1 x hx
  · obtain ⟨l, hl, rfl⟩ := List.mem_map.1 hr
    exact (atom_codes (h.ca l hl)).2.1 x hx
theorem mem_onceC {c : CC} {r : List Int} : r ∈ (onceC c).rows ↔ r ∈ c.rows := by
  simp only [CC.rows, onceC, List.mem_append, List.mem_map, mem_once, List.not_mem_nil, false_or]
theorem mem_seenC {c : CC} {x : Int} : x ∈ seenC c ↔ x < 0 ∧ ∃ r ∈ c.rows, x ∈ r := by
  rw [seenC, mem_seenRs]
  simp only [List.not_mem_nil, false_or, mem_onceC]
theorem seenC_nodup (c : CC) : (seenC c).Nodup := nodup_seenRs List.nodup_nil
theorem seenC_len {g : List Sym} {c : CC} (h : ClOk g c) : (seenC c).length ≤ 24 := by
  have := sub_len (seenC c) (firsts 24) (seenC_nodup c) (fun x hx => by
    obtain ⟨h1, r, hr, h2⟩ := mem_seenC.1 hx
    have := cl_codes h r hr x h2
    exact mem_firsts.2 ⟨h1, by omega⟩)
  rwa [firsts_len] at this
/-! ### Rows with other variables -/
theorem arOf_ren {g : List Sym} {s : List Int} (hs : s.length ≤ 24) {c : Int} (h1 : -24 ≤ c) (h2 : c < 0 → c ∈ s) : arOf g (renC s c) = arOf g c := by
  unfold renC
  split
  · rfl
  · have h3 := List.idxOf_lt_length_of_mem (h2 (by omega))
    rw [arOf, if_pos (by omega), if_pos (by omega), arOf, if_pos (by omega), if_pos (by omega)]
theorem lenN_map {g : List Sym} (f : Int → Int) : ∀ {r : List Int} (n : Nat), (∀ c ∈ r, arOf g (f c) = arOf g c) → lenN g (r.map f) n = lenN g r n
  | r, 0, h => by cases r <;> rfl
  | [], n + 1, h => rfl
  | c :: r, n + 1, h => by
    simp only [List.map_cons, lenN]
    rw [h c (by simp)]
    split
    · rfl
    · rename_i k hk
      rw [lenN_map f (r := r) (n + k) (fun x hx => h x (by simp [hx]))]
theorem parts_map {g : List Sym} (f : Int → Int) : ∀ (n : Nat) {r : List Int}, r.length ≤ n → (∀ c ∈ r, arOf g (f c) = arOf g c) → parts g (r.map f) = (parts g r).map (List.map (List.map f))
  | n, [], _, _ => by simp [parts_nil]
  | 0, c :: r, hn, _ => by simp at hn
  | n + 1, c :: r, hn, h => by
    have hl := lenN_map (g := g) f (r := c :: r) 1 h
    cases hk : lenN g (c :: r) 1 with
    | none =>
      rw [parts_none (by simp) (hl.trans hk), parts_none (by simp) hk]; rfl
    | some k =>
      have h1 := lenN_le hk
      rw [parts_some (by simp) (hl.trans hk), parts_some (by simp) hk, ← List.map_drop, ← List.map_take]
      have := parts_map f n (r := (c :: r).drop k) (by simp at hn ⊢; omega) (fun x hx => h x (List.mem_of_mem_drop hx))
      rw [this]
      cases parts g ((c :: r).drop k) <;> simp
theorem rowB_map {g : List Sym} (f : Int → Int) {r : List Int} (h : ∀ c ∈ r, arOf g (f c) = arOf g c) : rowB g (r.map f) = rowB g r ∧ termsN g (r.map f) = termsN g r := by
  have h1 := parts_map (g := g) f r.length (Nat.le_refl _) h
  constructor
  · simp only [rowB, rowP, List.length_map, h1]
    split <;> simp
  · simp only [termsN, begsM, rowP, List.length_map, h1]
    by_cases hl : r.length ≤ 48
    · simp only [if_pos hl]
      cases parts g r <;> simp <;> split <;> simp [begs_len]
    · simp only [if_neg hl]
theorem ren_row {g : List Sym} {s : List Int} (hs : s.length ≤ 24) {r : List Int} (h : rowB g r = true) (hm : ∀ c ∈ r, c < 0 → c ∈ s) : rowB g (renR s r) = true ∧ termsN g (renR s r) = termsN g r := by
  have h1 := rowB_map (g := g) (renC s) (r := r) (fun c hc => arOf_ren hs (row_codes h c hc).1 (hm c hc))
  exact ⟨h1.1.trans h, h1.2⟩
theorem ren_atom {g : List Sym} {s : List Int} (hs : s.length ≤ 24) {a : List Int} (h : atomB g a = true) (hm : ∀ c ∈ a, c < 0 → c ∈ s) : atomB g (renR s a) = true := by
  have hc := (atom_codes h).2.1
  cases a with
  | nil => exact h
  | cons p r =>
    have hp : ¬ p < 0 := fun hp => by simp [atomB, hp] at h
    have h0 : renC s p = p := by simp [renC]; intro; omega
    have h1 := parts_map (g := g) (renC s) r.length (r := r) (Nat.le_refl _) (fun c h2 => arOf_ren hs (hc c (by simp [h2])).1 (hm c (by simp [h2])))
    have h2 : rowP g (r.map (renC s)) = (rowP g r).map (List.map (List.map (renC s))) := by
      simp only [rowP, List.length_map, h1]; split <;> rfl
    rw [← h]
    simp only [renR, List.map_cons, atomB, h0, h2]
    split
    · rfl
    · split
      · rfl
      · cases rowP g r <;> simp
theorem lenI_map (f : List Int → List Int) (hf : ∀ r, (f r).length = r.length) : ∀ rs, lenI (rs.map f) = lenI rs
  | [] => rfl
  | r :: rs => by simp [lenI, hf, lenI_map f hf rs]
theorem ren_rows (s : List Int) (c : CC) : (renCC s c).rows = c.rows.map (renR s) := by
  simp [CC.rows, renCC, renL, Function.comp_def]
theorem lenI_once {α : Type} [DecidableEq α] (k : α → List Int) : ∀ (r out : List α), lenI ((onceK id out r).map k) ≤ lenI (out.map k) + lenI (r.map k)
  | [], out => by simp [onceK]
  | x :: r, out => by
    simp only [onceK]
    split
    · have := lenI_once k r out; simp [lenI]; omega
    · have := lenI_once k r (out ++ [x]); simp [lenI_app, lenI] at this ⊢; omega
theorem norm_ok {g : List Sym} {c : CC} (h : ClOk g c) : ClOk g (normC c) := by
  have hs := seenC_len h
  have hm : ∀ r ∈ c.rows, ∀ x ∈ r, x < 0 → x ∈ seenC c := fun r hr x hx h0 => mem_seenC.2 ⟨h0, r, hr, hx⟩
  have hin1 : ∀ l ∈ c.ls, l.2 ∈ c.rows := fun l hl => in_ls hl
  have hin2 : ∀ r ∈ c.ts, r ∈ c.rows := fun l hl => by simp [CC.rows, hl]
  have hin3 : ∀ l ∈ c.cs, l.2 ∈ c.rows := fun l hl => in_cs hl
  refine ⟨h.sg, ?_, ?_, ?_, ?_, ?_, ?_, ?_⟩
  · have := once_len id c.ls []; have := h.l5; simp [normC, renCC, onceC] at *; omega
  · have := once_len id c.ts []; have := h.t3; simp [normC, renCC, onceC] at *; omega
  · have := once_len id c.cs []; have := h.c3; simp [normC, renCC, onceC] at *; omega
  · intro l hl
    simp only [normC, renCC, onceC, List.mem_map] at hl
    obtain ⟨m, hm1, rfl⟩ := hl
    have h1 : m ∈ c.ls := by simpa using (mem_once c.ls [] m).1 hm1
    exact ren_atom hs (h.la m h1) (hm _ (hin1 m h1))
  · obtain ⟨k, hk⟩ := h.tr
    refine ⟨k, fun r hr => ?_⟩
    simp only [normC, renCC, onceC, List.mem_map] at hr
    obtain ⟨m, hm1, rfl⟩ := hr
    have h1 : m ∈ c.ts := by simpa using (mem_once c.ts [] m).1 hm1
    have h2 := ren_row hs (hk m h1).1 (hm _ (hin2 m h1))
    exact ⟨h2.1, h2.2.trans (hk m h1).2⟩
  · intro l hl
    simp only [normC, renCC, onceC, List.mem_map] at hl
    obtain ⟨m, hm1, rfl⟩ := hl
    have h1 : m ∈ c.cs := by simpa using (mem_once c.cs [] m).1 hm1
    exact ren_atom hs (h.ca m h1) (hm _ (hin3 m h1))
  · rw [normC, ren_rows, lenI_map _ (fun r => by simp [renR])]
    refine Nat.le_trans ?_ h.sum
    simp only [CC.rows, onceC, lenI_app]
    have h1 := lenI_once (fun l : LC => l.2) c.ls []
    have h2 := lenI_once (fun l : List Int => l) c.ts []
    have h3 := lenI_once (fun l : LC => l.2) c.cs []
    simp [lenI] at h1 h2 h3
    omega
/-! ### Its own normal one -/
theorem norm_norm (c : CC) : normC (normC c) = normC c := by
  have hm : ∀ r ∈ c.rows, ∀ x ∈ r, x < 0 → x ∈ seenC c := fun r hr x hx h0 => mem_seenC.2 ⟨h0, r, hr, hx⟩
  have hin1 : ∀ l ∈ (onceC c).ls, l.2 ∈ c.rows := fun l hl => mem_onceC.1 (in_ls hl)
  have hin2 : ∀ r ∈ (onceC c).ts, r ∈ c.rows := fun l hl => mem_onceC.1 (by simp [CC.rows, hl])
  have hin3 : ∀ l ∈ (onceC c).cs, l.2 ∈ c.rows := fun l hl => mem_onceC.1 (in_cs hl)
  have hL : ∀ (ls : List LC), ls.Nodup → (∀ l ∈ ls, l.2 ∈ c.rows) → onceK id [] (ls.map (renL (seenC c))) = ls.map (renL (seenC c)) := by
    intro ls hn hr
    have := once_inj (renL (seenC c)) ls [] (fun a ha b hb he => by
      simp at ha hb
      have h1 := congrArg Prod.fst he
      have h2 := renR_inj (hm _ (hr a ha)) (hm _ (hr b hb)) (congrArg Prod.snd he)
      exact Prod.ext h1 h2)
    simp only [List.map_nil] at this
    rw [this, once_same ls [] (by simpa using hn), List.nil_append]
  have hR : ∀ (ls : List (List Int)), ls.Nodup → (∀ l ∈ ls, l ∈ c.rows) → onceK id [] (ls.map (renR (seenC c))) = ls.map (renR (seenC c)) := by
    intro ls hn hr
    have := once_inj (renR (seenC c)) ls [] (fun a ha b hb he => by
      simp at ha hb
      exact renR_inj (hm _ (hr a ha)) (hm _ (hr b hb)) he)
    simp only [List.map_nil] at this
    rw [this, once_same ls [] (by simpa using hn), List.nil_append]
  have h1 : onceC (normC c) = normC c := by
    simp only [onceC, normC, renCC]
    have e1 := hL (onceC c).ls (once_nodup _ _ List.nodup_nil) hin1
    have e2 := hR (onceC c).ts (once_nodup _ _ List.nodup_nil) hin2
    have e3 := hL (onceC c).cs (once_nodup _ _ List.nodup_nil) hin3
    simp only [onceC] at e1 e2 e3
    rw [e1, e2, e3]
  have h2 : seenC (normC c) = firsts (seenC c).length := by
    rw [seenC, h1, normC, ren_rows]
    have := seens_ren (onceC c).rows [] [] (by rw [List.append_nil]; exact seenC_nodup c)
    rw [List.append_nil] at this
    exact this
  have h3 : ∀ r ∈ (onceC c).rows, renR (firsts (seenC c).length) (renR (seenC c) r) = renR (seenC c) r := by
    intro r hr
    rw [renR, renR, List.map_map]
    refine List.map_congr_left fun x hx => ?_
    refine ren_firsts fun h0 => ?_
    have h4 := (ren_neg (seenC c) x).1 h0
    have h5 := List.idxOf_lt_length_of_mem (hm r (mem_onceC.1 hr) x hx h4)
    rw [renC, if_neg (by omega)]; omega
  rw [normC, h1, h2]
  simp only [normC, renCC, List.map_map]
  congr 1
  · exact List.map_congr_left fun l hl => Prod.ext rfl (h3 l.2 (mem_onceC.2 (hin1 l hl)))
  · exact List.map_congr_left fun l hl => h3 l (mem_onceC.2 (hin2 l hl))
  · exact List.map_congr_left fun l hl => Prod.ext rfl (h3 l.2 (mem_onceC.2 (hin3 l hl)))
theorem seen_norm (c : CC) : seenC (normC c) = firsts (seenC c).length := by
  have hm : ∀ r ∈ c.rows, ∀ x ∈ r, x < 0 → x ∈ seenC c := fun r hr x hx h0 => mem_seenC.2 ⟨h0, r, hr, hx⟩
  have h0 := norm_norm c
  have h1 : onceC (normC c) = normC c := by
    have hn1 : ∀ (ls : List LC), ls.Nodup → onceK id [] ls = ls := fun ls h => by rw [once_same ls [] (by simpa using h)]; rfl
    have hin1 : ∀ l ∈ (onceC c).ls, l.2 ∈ c.rows := fun l hl => mem_onceC.1 (in_ls hl)
    have hin2 : ∀ r ∈ (onceC c).ts, r ∈ c.rows := fun l hl => mem_onceC.1 (by simp [CC.rows, hl])
    have hin3 : ∀ l ∈ (onceC c).cs, l.2 ∈ c.rows := fun l hl => mem_onceC.1 (in_cs hl)
    have hL : ∀ (ls : List LC), ls.Nodup → (∀ l ∈ ls, l.2 ∈ c.rows) → onceK id [] (ls.map (renL (seenC c))) = ls.map (renL (seenC c)) := by
      intro ls hn hr
      have := once_inj (renL (seenC c)) ls [] (fun a ha b hb he => by
        simp at ha hb
        have h1 := congrArg Prod.fst he
        have h2 := renR_inj (hm _ (hr a ha)) (hm _ (hr b hb)) (congrArg Prod.snd he)
        exact Prod.ext h1 h2)
      simp only [List.map_nil] at this
      rw [this, once_same ls [] (by simpa using hn), List.nil_append]
    have hR : ∀ (ls : List (List Int)), ls.Nodup → (∀ l ∈ ls, l ∈ c.rows) → onceK id [] (ls.map (renR (seenC c))) = ls.map (renR (seenC c)) := by
      intro ls hn hr
      have := once_inj (renR (seenC c)) ls [] (fun a ha b hb he => by
        simp at ha hb
        exact renR_inj (hm _ (hr a ha)) (hm _ (hr b hb)) he)
      simp only [List.map_nil] at this
      rw [this, once_same ls [] (by simpa using hn), List.nil_append]
    simp only [onceC, normC, renCC]
    have e1 := hL (onceC c).ls (once_nodup _ _ List.nodup_nil) hin1
    have e2 := hR (onceC c).ts (once_nodup _ _ List.nodup_nil) hin2
    have e3 := hL (onceC c).cs (once_nodup _ _ List.nodup_nil) hin3
    simp only [onceC] at e1 e2 e3
    rw [e1, e2, e3]
  rw [seenC, h1, normC, ren_rows]
  have := seens_ren (onceC c).rows [] [] (by rw [List.append_nil]; exact seenC_nodup c)
  rw [List.append_nil] at this
  exact this
/-! ### Weight, variables -/
/-- The variables of rows, as they rise. -/
def varsC (rs : List (List Int)) : List Int := rs.foldl seenF []
theorem mem_folds : ∀ {rs : List (List Int)} {vs : List Int} {x : Int}, x ∈ rs.foldl seenF vs ↔ x ∈ vs ∨ (0 ≤ x ∧ ∃ r ∈ rs, (-1 - x) ∈ r)
  | [], vs, x => by simp
  | r :: rs, vs, x => by
    rw [List.foldl_cons, mem_folds (rs := rs), mem_seen]
    constructor
    · rintro ((h | h) | ⟨h1, t, ht, h⟩)
      · exact .inl h
      · exact .inr ⟨h.1, r, by simp, h.2⟩
      · exact .inr ⟨h1, t, by simp [ht], h⟩
    · rintro (h | ⟨h1, t, ht, h⟩)
      · exact .inl (.inl h)
      · rcases List.mem_cons.1 ht with h2 | h2
        · subst h2; exact .inl (.inr ⟨h1, h⟩)
        · exact .inr ⟨h1, t, h2, h⟩
theorem up_folds : ∀ {rs : List (List Int)} {vs : List Int}, Up vs → Up (rs.foldl seenF vs)
  | [], vs, h => h
  | r :: rs, vs, h => up_folds (rs := rs) (up_seen h)
theorem vars_mem {rs : List (List Int)} {x : Int} : x ∈ varsC rs ↔ 0 ≤ x ∧ ∃ r ∈ rs, (-1 - x) ∈ r := by
  rw [varsC, mem_folds]; simp
/-- The variables do not hang on the rows' order. -/
theorem vars_ext {rs us : List (List Int)} (h : ∀ r, r ∈ rs ↔ r ∈ us) : varsC rs = varsC us :=
  up_ext (up_folds List.Pairwise.nil) (up_folds List.Pairwise.nil) fun x => by
    show x ∈ varsC rs ↔ x ∈ varsC us
    rw [vars_mem, vars_mem]; simp only [h]
theorem up_nodup {l : List Int} (h : Up l) : l.Nodup := h.imp fun hab e => by subst e; omega
theorem vars_flat {rs : List (List Int)} (h : ∀ r ∈ rs, ∀ c ∈ r, -24 ≤ c) : varsC rs = varsM rs.flatten := by
  have h1 : ∀ c ∈ rs.flatten, -24 ≤ c := fun c hc => by
    obtain ⟨r, hr, hc⟩ := List.mem_flatten.1 hc
    exact h r hr c hc
  rw [← seen_vars h1]
  refine up_ext (up_folds List.Pairwise.nil) (up_seen List.Pairwise.nil) fun x => ?_
  show x ∈ varsC rs ↔ _
  rw [vars_mem, mem_seen]
  simp [List.mem_flatten]
theorem vars_seen (c : CC) {x : Int} : x ∈ varsC c.rows ↔ 0 ≤ x ∧ (-1 - x) ∈ seenC c := by
  rw [vars_mem, mem_seenC]
  constructor
  · rintro ⟨h, r, hr⟩; exact ⟨h, by omega, r, hr⟩
  · rintro ⟨h, _, r, hr⟩; exact ⟨h, r, hr⟩
theorem vars_len (c : CC) : (varsC c.rows).length = (seenC c).length := by
  apply Nat.le_antisymm
  · have h1 : ((varsC c.rows).map fun x => -1 - x).Nodup := by
      have := up_nodup (l := varsC c.rows) (up_folds List.Pairwise.nil)
      rw [List.nodup_iff_pairwise_ne] at *
      exact List.pairwise_map.2 (this.imp fun h => by omega)
    have := sub_len _ (seenC c) h1 (fun x hx => by
      obtain ⟨y, hy, rfl⟩ := List.mem_map.1 hx
      exact ((vars_seen c).1 hy).2)
    rwa [List.length_map] at this
  · have h1 : ((seenC c).map fun x => -1 - x).Nodup := by
      have := seenC_nodup c
      rw [List.nodup_iff_pairwise_ne] at *
      exact List.pairwise_map.2 (this.imp fun h => by omega)
    have := sub_len _ (varsC c.rows) h1 (fun x hx => by
      obtain ⟨y, hy, rfl⟩ := List.mem_map.1 hx
      have := (mem_seenC.1 hy).1
      refine (vars_seen c).2 ⟨by omega, ?_⟩
      rw [show (-1 - (-1 - y) : Int) = y by omega]; exact hy)
    rwa [List.length_map] at this
theorem vars_norm (c : CC) : varsC (normC c).rows = (List.range (seenC c).length).map fun (i : Nat) => (i : Int) := by
  refine up_ext (up_folds List.Pairwise.nil) ?_ fun x => ?_
  · refine List.pairwise_map.2 ?_
    exact List.pairwise_lt_range.imp (fun h => by omega)
  · show x ∈ varsC _ ↔ _
    rw [vars_seen, seen_norm, mem_firsts]
    simp only [List.mem_map, List.mem_range]
    constructor
    · rintro ⟨h1, h2, h3⟩; exact ⟨x.toNat, by omega, by omega⟩
    · rintro ⟨i, hi, rfl⟩; omega
end Go.Qu

/- Clauses of which each part stands once: what the program's functions hand back. For every input; no condition. -/
set_option linter.unusedVariables false
set_option linter.unusedSimpArgs false
set_option maxRecDepth 100000
namespace Go.Proofs.YtmldmhbdeejcnaaDoor.Ab
open Go Go.Ab Go.Qu Go.Proofs
attribute [local simp] and_assoc
theorem w_litsame {b b' z z' : Bool} {a a' : List Int} {e e' : List D} (ha : Len a) : C 87 [iLit b z a e, iLit b' z' a' e'] = some (iB (decide ((b, a) = (b', a'))), [iLit b z a e, iLit b' z' a' e']) := by
  refine wfn (lk := []) rfl rfl (fnW_way (q87 _ _ b z (ints a) e b' z' (ints a') e' _) ?_)
  have h1 := w_equal ha a' z z' e e'
  by_cases h : a = a'
  · subst h
    cases b <;> cases b' <;> simp [-Bool.exists_bool, h1]
  · cases b <;> cases b' <;> simp [-Bool.exists_bool, h1, h]
/-- A literal as a variable that is lent. -/
abbrev pL (l : LitR) : IV := .dptr [.bool l.neg, .sl 1 l.r.z (ints l.r.l) l.r.e]
abbrev pR (r : Row) : IV := .dptr [.sl 1 r.z (ints r.l) r.e]
theorem w_once1 {l m : LitR} (hl : Len l.r.l) : C 86 [iLit m.neg m.r.z m.r.l m.r.e, pL l] = some (iB (decide (l.c = m.c)), [iLit m.neg m.r.z m.r.l m.r.e, pL l]) := by
  refine wfn (lk := []) rfl rfl (fnW_way (q86 _ _ m.neg m.r.z (ints m.r.l) m.r.e l.neg l.r.z (ints l.r.l) l.r.e _) ?_)
  have h1 := w_litsame (b := l.neg) (b' := m.neg) (z := l.r.z) (z' := m.r.z) (a' := m.r.l) (e := l.r.e) (e' := m.r.e) hl
  by_cases h : l.c = m.c
  · have h2 : (l.neg, l.r.l) = (m.neg, m.r.l) := h
    rw [h2] at h1
    simp [-Bool.exists_bool, h1, h2, h]
  · have h2 : ¬ (l.neg, l.r.l) = (m.neg, m.r.l) := h
    rw [decide_eq_false h2] at h1
    simp [-Bool.exists_bool, h1, h]
/-- The place of the first thing of which a question is told true. -/
def idxQ {α : Type} (q : α → Bool) (l : List α) : Int := match l.findIdx? q with | some i => i | none => -1
theorem idxQ_some {α : Type} {q : α → Bool} {l : List α} {j : Nat} (hj : j < l.length) (hq : q l[j] = true) (hk : ∀ k, k < j → ∀ x, l[k]? = some x → q x = false) : idxQ q l = (j : Int) := by
  have : l.findIdx? q = some j := by
    rw [List.findIdx?_eq_some_iff_getElem]
    exact ⟨hj, hq, fun k hk' => by
      have := hk k hk' l[k] (by simp)
      simp [this]⟩
  unfold idxQ; rw [this]
theorem idxQ_none {α : Type} {q : α → Bool} {l : List α} (hk : ∀ k, k < l.length → ∀ x, l[k]? = some x → q x = false) : idxQ q l = -1 := by
  have : l.findIdx? q = none := by
    rw [List.findIdx?_eq_none_iff]
    intro x hx
    obtain ⟨i, hi, rfl⟩ := List.getElem_of_mem hx
    exact hk i hi _ (by simp)
  unfold idxQ; rw [this]
theorem idxQ_any {α : Type} (q : α → Bool) (l : List α) : decide (idxQ q l ≥ 0) = l.any q := by
  unfold idxQ
  cases h : l.findIdx? q with
  | none =>
    have : l.any q = false := by
      rw [List.any_eq_false]
      intro x hx; simp [List.findIdx?_eq_none_iff.1 h x hx]
    rw [this]; rfl
  | some i =>
    have : l.any q = true := by
      obtain ⟨hi, hq, _⟩ := List.findIdx?_eq_some_iff_getElem.1 h
      exact List.any_eq_true.2 ⟨_, List.getElem_mem hi, hq⟩
    rw [this]; simp
theorem w_idxonce {l : LitR} (hl : Len l.r.l) {ls : List LitR} (hn : ls.length ≤ 1000) (z : Bool) (e : List D) : C 67 [iL z ls e, .fn 86 [pL l]] = some (iI (idxQ (fun m => decide (l.c = m.c)) ls), [iL z ls e, .fn 86 [pL l]]) := by
  refine wfn (lk := [1]) rfl rfl (fnW_way (q67 _ _ z (lits ls) e l.neg l.r.z (ints l.r.l) l.r.e _) ?_)
  have hl := blk_find (F := F) (d := d67) (lk := [1]) (p := [1,0,1,0,0]) (p0 := [1,0,1]) (by kernel_rfl) (n := ls.length) (id := 0) (st := fun i => [(0, iL z ls e), (1, .fn 86 [pL l]), (7, iI ls.length), (8, iI i)]) (q := fun i => match ls[i]? with | some m => decide (l.c = m.c) | none => false) (rt := fun i => [(1, .fn 86 [pL l]), (4, iI i)]) (e := [(0, iL z ls e), (1, .fn 86 [pL l]), (7, iI ls.length), (8, iI ls.length)])
    (fun i hi hq => by
      refine wpQ_way (q67_l0a _ _ z (lits ls) e l.neg l.r.z (ints l.r.l) l.r.e _ i _) ?_
      obtain ⟨m, hm⟩ := at_lt hi
      have h1 := w_once1 (l := l) (m := m) hl
      rw [hm] at hq
      dsimp only at hq
      rw [hq] at h1
      simp [-Bool.exists_bool, -getElem?_pos, -Int.natCast_add, wr1 hi (by omega), hi, lits_at hm, h1])
    (fun i hi hq => by
      refine wpQ_way (q67_l0a _ _ z (lits ls) e l.neg l.r.z (ints l.r.l) l.r.e _ i _) ?_
      obtain ⟨m, hm⟩ := at_lt hi
      have h1 := w_once1 (l := l) (m := m) hl
      rw [hm] at hq
      dsimp only at hq
      rw [hq] at h1
      simp [-Bool.exists_bool, -getElem?_pos, -Int.natCast_add, wr1 hi (by omega), hi, lits_at hm, h1])
    (wpQ_way (q67_l0a _ _ z (lits ls) e l.neg l.r.z (ints l.r.l) l.r.e _ ls.length _) (by simp)) 0 (Nat.zero_le _)
  rcases hl with ⟨h2, h3⟩ | ⟨j, h1, h2, h4, h5, h3⟩
  · rw [idxQ_none (fun k hk t ht => by have := h2 k (Nat.zero_le _) hk; rw [ht] at this; exact this)]
    rw [lits_len]
    exact .inr (.inl ⟨_, _, _, _, _, _, _, _, _, h3, rfl⟩)
  · rw [idxQ_some h2 (by have := h4; rw [List.getElem?_eq_getElem h2] at this; exact this) (fun k hk t ht => by have := h5 k (Nat.zero_le _) hk; rw [ht] at this; exact this)]
    rw [lits_len]
    exact .inl ⟨_, _, _, _, _, h3, rfl⟩
theorem w_hasonce {l : LitR} (hl : Len l.r.l) {ls : List LitR} (hn : ls.length ≤ 1000) (z : Bool) (e : List D) : C 85 [iL z ls e, .fn 86 [pL l]] = some (iB (decide (l.c ∈ ls.map LitR.c)), [iL z ls e, .fn 86 [pL l]]) := by
  refine wfn (lk := [1]) rfl rfl (fnW_way (q85 _ _ z (lits ls) e l.neg l.r.z (ints l.r.l) l.r.e _) ?_)
  have h1 := w_idxonce hl hn z e
  have h2 := idxQ_any (fun m => decide (l.c = m.c)) ls
  have h3 : (ls.any fun m => decide (l.c = m.c)) = decide (l.c ∈ ls.map LitR.c) := by
    rw [Bool.eq_iff_iff]
    simp only [List.any_eq_true, decide_eq_true_eq, List.mem_map]
    exact ⟨fun ⟨m, hm, h⟩ => ⟨m, hm, h.symm⟩, fun ⟨m, hm, h⟩ => ⟨m, hm, h.symm⟩⟩
  rw [h3] at h2
  rw [← h2]
  by_cases h : 0 ≤ idxQ (fun m => decide (l.c = m.c)) ls
  · simp [-Bool.exists_bool, h1, h]
  · simp [-Bool.exists_bool, h1, h]; omega
theorem w_clonce {ls : List LitR} (hn : ls.length ≤ 1000) (hl : ∀ l ∈ ls, Len l.r.l) (z : Bool) (e : List D) : C 69 [iL z ls e] = some (.own (onceK LitR.c [] ls).isEmpty 35 2 (lits (onceK LitR.c [] ls)), [iL z ls e]) := by
  refine wfn (lk := []) rfl rfl (fnW_way (q69 _ _ z (lits ls) e _) ?_)
  have h1 := fun x hx => blk_fun (F := F) (d := d69) (lk := []) (p := [1,1,0,1,0,0]) (p0 := [1,1,0,1]) (id := 0) (by kernel_rfl) (st := fun (x : List LitR × Nat) => [(3, .own x.1.isEmpty 35 2 (lits x.1)), (6, iL z ls e), (7, iI ls.length), (8, iI x.2)]) (I := fun x => x.2 ≤ ls.length ∧ x.1.length ≤ x.2) (μ := fun x => ls.length - x.2)
    (res := fun x => .norm [(3, .own (onceK LitR.c x.1 (ls.drop x.2)).isEmpty 35 2 (lits (onceK LitR.c x.1 (ls.drop x.2)))), (6, iL z ls e), (7, iI ls.length), (8, iI ls.length)])
    (fun x hx => by
      obtain ⟨us, i⟩ := x
      obtain ⟨hx1, hx2⟩ := hx
      dsimp only at hx1 hx2
      by_cases hi : i < ls.length
      · obtain ⟨l, hl1⟩ := at_lt hi
        have hd : ls.drop i = l :: ls.drop (i + 1) := by
          rw [List.drop_eq_getElem_cons hi]
          rw [List.getElem?_eq_getElem hi] at hl1
          cases hl1; rfl
        have hlm : l ∈ ls := List.mem_of_getElem? hl1
        have hc := w_hasonce (hl l hlm) (ls := us) (by omega) us.isEmpty []
        have hi' : (i : Int) < ls.length := by omega
        by_cases hm : l.c ∈ us.map LitR.c
        · rw [decide_eq_true hm] at hc
          refine .go (us, i + 1) (wpQ_way (q69_l0a _ _ us.isEmpty (lits us) z (lits ls) e _ i _) ?_) ⟨by dsimp only; omega, by dsimp only; omega⟩ (by dsimp only; omega) ?_
          · simp [-Bool.exists_bool, -getElem?_pos, -Int.natCast_add, hi', lits_at hl1, hc, wr1 hi (by omega)]
          · dsimp only; rw [hd, onceK, if_pos hm]
        · rw [decide_eq_false hm] at hc
          refine .go (us ++ [l], i + 1) (wpQ_way (q69_l0a _ _ us.isEmpty (lits us) z (lits ls) e _ i _) ?_) ⟨by dsimp only; omega, by simp; omega⟩ (by dsimp only; omega) ?_
          · have k1 : us.length + 1 ≤ 9223372036854775807 := by omega
            have k2 : (us.length + 1) * 32 ≤ 140737488355328 := by omega
            simp [-Bool.exists_bool, -getElem?_pos, -Int.natCast_add, hi', lits_at hl1, hc, wr1 hi (by omega), lits_len, k1, k2, lits_append, lits_cons, lits_nil, D.cells]
          · dsimp only; rw [hd, onceK, if_neg hm]
      · have e1 : i = ls.length := by omega
        subst e1
        refine .stop (.exit 0 [(3, .own us.isEmpty 35 2 (lits us)), (6, iL z ls e), (7, iI ls.length), (8, iI ls.length)]) (wpQ_way (q69_l0a _ _ us.isEmpty (lits us) z (lits ls) e _ _ _) (by simp)) rfl ?_
        simp [blkO, onceK]) x hx
  have h2 : evP F (Go.Ab.W F) (JW F d69 []) d69 [] [1,1,0,1] [(3, .own true 35 2 []), (6, iL z ls e), (7, iI ls.length), (8, iI 0)] = _ := h1 ([], 0) ⟨Nat.zero_le _, Nat.le_refl _⟩
  rw [List.drop_zero] at h2
  simp [-Bool.exists_bool, lits_len, h2]
/-! ### Rows -/
theorem w_anew1 {r : Row} (hr : Len r.l) (z : Bool) (u : List Int) (e : List D) : C 71 [iS z u e, pR r] = some (iB (decide (r.l = u)), [iS z u e, pR r]) := by
  refine wfn (lk := []) rfl rfl (fnW_way (q71 _ _ z (ints u) e r.z (ints r.l) r.e _) ?_)
  have h1 := w_equal hr u r.z z r.e e
  by_cases h : r.l = u
  · subst h; simp [-Bool.exists_bool, h1]
  · simp [-Bool.exists_bool, h1, h]
theorem w_idxrow {r : Row} (hr : Len r.l) {ts : List Row} (hn : ts.length ≤ 1000) (z : Bool) (e : List D) : C 88 [iR z ts e, .fn 71 [pR r]] = some (iI (idxQ (fun u => decide (r.l = u.l)) ts), [iR z ts e, .fn 71 [pR r]]) := by
  refine wfn (lk := [1]) rfl rfl (fnW_way (q88 _ _ z (rws ts) e r.z (ints r.l) r.e _) ?_)
  have hl := blk_find (F := F) (d := d88) (lk := [1]) (p := [1,0,1,0,0]) (p0 := [1,0,1]) (by kernel_rfl) (n := ts.length) (id := 0) (st := fun i => [(0, iR z ts e), (1, .fn 71 [pR r]), (7, iI ts.length), (8, iI i)]) (q := fun i => match ts[i]? with | some u => decide (r.l = u.l) | none => false) (rt := fun i => [(1, .fn 71 [pR r]), (4, iI i)]) (e := [(0, iR z ts e), (1, .fn 71 [pR r]), (7, iI ts.length), (8, iI ts.length)])
    (fun i hi hq => by
      refine wpQ_way (q88_l0a _ _ z (rws ts) e r.z (ints r.l) r.e _ i _) ?_
      obtain ⟨m, hm⟩ := at_lt hi
      have h1 := w_anew1 hr m.z m.l m.e
      rw [hm] at hq
      dsimp only at hq
      rw [hq] at h1
      simp [-Bool.exists_bool, -getElem?_pos, -Int.natCast_add, wr1 hi (by omega), hi, rws_at hm, h1])
    (fun i hi hq => by
      refine wpQ_way (q88_l0a _ _ z (rws ts) e r.z (ints r.l) r.e _ i _) ?_
      obtain ⟨m, hm⟩ := at_lt hi
      have h1 := w_anew1 hr m.z m.l m.e
      rw [hm] at hq
      dsimp only at hq
      rw [hq] at h1
      simp [-Bool.exists_bool, -getElem?_pos, -Int.natCast_add, wr1 hi (by omega), hi, rws_at hm, h1])
    (wpQ_way (q88_l0a _ _ z (rws ts) e r.z (ints r.l) r.e _ ts.length _) (by simp)) 0 (Nat.zero_le _)
  rcases hl with ⟨h2, h3⟩ | ⟨j, h1, h2, h4, h5, h3⟩
  · rw [idxQ_none (fun k hk t ht => by have := h2 k (Nat.zero_le _) hk; rw [ht] at this; exact this)]
    rw [rws_len]
    exact .inr ⟨_, _, _, _, _, _, _, _, h3, rfl⟩
  · rw [idxQ_some h2 (by have := h4; rw [List.getElem?_eq_getElem h2] at this; exact this) (fun k hk t ht => by have := h5 k (Nat.zero_le _) hk; rw [ht] at this; exact this)]
    rw [rws_len]
    exact .inl ⟨_, _, _, _, h3, rfl⟩
theorem w_hasrow {r : Row} (hr : Len r.l) {ts : List Row} (hn : ts.length ≤ 1000) (z : Bool) (e : List D) : C 70 [iR z ts e, .fn 71 [pR r]] = some (iB (decide (r.l ∈ ts.map (·.l))), [iR z ts e, .fn 71 [pR r]]) := by
  refine wfn (lk := [1]) rfl rfl (fnW_way (q70 _ _ z (rws ts) e r.z (ints r.l) r.e _) ?_)
  have h1 := w_idxrow hr hn z e
  have h2 := idxQ_any (fun u => decide (r.l = u.l)) ts
  have h3 : (ts.any fun u => decide (r.l = u.l)) = decide (r.l ∈ ts.map (·.l)) := by
    rw [Bool.eq_iff_iff]
    simp only [List.any_eq_true, decide_eq_true_eq, List.mem_map]
    exact ⟨fun ⟨m, hm, h⟩ => ⟨m, hm, h.symm⟩, fun ⟨m, hm, h⟩ => ⟨m, hm, h.symm⟩⟩
  rw [h3] at h2
  rw [← h2]
  by_cases h : 0 ≤ idxQ (fun u => decide (r.l = u.l)) ts
  · simp [-Bool.exists_bool, h1, h]
  · simp [-Bool.exists_bool, h1, h]; omega
theorem w_clone {t : List Int} (ht : Len t) (z : Bool) (hz : z = true → t = []) (e : List D) : C 39 [iS z t e] = some (.own z 3 1 (ints t), [iS z t e]) := by
  refine wfn (lk := []) rfl rfl (fnW_way (q39 _ _ z (ints t) e _) ?_)
  cases z with
  | true => have := hz rfl; subst this; simp [-Bool.exists_bool, ints_nil]
  | false =>
    have h1 : (ints t).length ≤ 9223372036854775807 := by rw [ints_len]; unfold Len at ht; omega
    have h2 : (ints t).length * 8 ≤ 140737488355328 := by rw [ints_len]; unfold Len at ht; omega
    simp [-Bool.exists_bool, h1, h2]
end Go.Proofs.YtmldmhbdeejcnaaDoor.Ab

/- Clauses with their variables numbered anew: what the program's functions hand back. For every input; no condition. -/
set_option linter.unusedVariables false
set_option linter.unusedSimpArgs false
set_option maxRecDepth 100000
namespace Go.Proofs.YtmldmhbdeejcnaaDoor.Ab
open Go Go.Ab Go.Qu Go.Proofs
attribute [local simp] and_assoc
/-- The table of what variables are called. -/
def toA (s : List Int) : List Int := (List.range 24).map fun (v : Nat) => if (-1 - (v : Int)) ∈ s then ((s.idxOf (-1 - (v : Int)) + 1 : Nat) : Int) else 0
theorem toA_len (s : List Int) : (toA s).length = 24 := by simp [toA]
theorem toA_at (s : List Int) {v : Nat} (hv : v < 24) : (ints (toA s))[v]? = some (.int .i64 (if (-1 - (v : Int)) ∈ s then ((s.idxOf (-1 - (v : Int)) + 1 : Nat) : Int) else 0)) := by
  simp [ints, toA, hv]
theorem toA_set {s : List Int} {v : Nat} (hv : v < 24) (hs : ¬ (-1 - (v : Int)) ∈ s) : (ints (toA s)).set v (.int .i64 ((s.length + 1 : Nat) : Int)) = ints (toA (s ++ [-1 - (v : Int)])) := by
  have h1 : (toA s).set v ((s.length + 1 : Nat) : Int) = toA (s ++ [-1 - (v : Int)]) := by
    refine List.ext_getElem (by simp [toA]) (fun i h1 h2 => ?_)
    have hi : i < 24 := by simpa [toA] using h1
    rw [List.getElem_set]
    by_cases hvi : v = i
    · subst hvi
      rw [if_pos rfl]
      simp only [toA, List.getElem_map, List.getElem_range]
      rw [if_pos (by simp), List.idxOf_append, if_neg hs]
      simp
    · rw [if_neg hvi]
      simp only [toA, List.getElem_map, List.getElem_range, List.mem_append, List.mem_singleton]
      have hne : ¬ (-1 - (i : Int)) = -1 - (v : Int) := by omega
      by_cases hm : (-1 - (i : Int)) ∈ s
      · rw [if_pos hm, if_pos (.inl hm), List.idxOf_append, if_pos hm]
      · rw [if_neg hm, if_neg (by rintro (h | h); exact hm h; exact hne h)]
  rw [← h1]; simp [ints, List.map_set]
/-- A row's codes one by one, as the variables come up. -/
def stepR : List Int → List Int → List Int
  | _, [] => []
  | s, c :: r => renC (addS s c) c :: stepR (addS s c) r
theorem stepR_ren : ∀ (r s : List Int), stepR s r = renR (seenR s r) r
  | [], s => rfl
  | c :: r, s => by
    obtain ⟨t, ht⟩ := pre_seenR r (addS s c)
    have h1 : renC (seenR (addS s c) r) c = renC (addS s c) c := by
      rw [ht]; exact ren_pre t (fun h0 => mem_addS.2 (.inr ⟨rfl, h0⟩))
    show renC (addS s c) c :: stepR (addS s c) r = renR (seenR (addS s c) r) (c :: r)
    rw [renR, List.map_cons, h1, stepR_ren r (addS s c)]; rfl
theorem ints_mid (a b : List Int) (c : Int) : (ints (a ++ c :: b))[a.length]? = some (.int .i64 c) := by simp [ints]
theorem ints_midset (a b : List Int) (c d : Int) : (ints (a ++ c :: b)).set a.length (.int .i64 d) = ints (a ++ d :: b) := by simp [ints]
/-- Variables of which there are twenty-four at most. -/
structure SeenOk (s : List Int) : Prop where
  nd : s.Nodup
  neg : ∀ c ∈ s, c < 0 ∧ -24 ≤ c
theorem SeenOk.len {s : List Int} (h : SeenOk s) : s.length ≤ 24 := by
  have := sub_len s (firsts 24) h.nd (fun x hx => mem_firsts.2 ⟨(h.neg x hx).1, by have := (h.neg x hx).2; omega⟩)
  rwa [firsts_len] at this
theorem SeenOk.add {s : List Int} (h : SeenOk s) {c : Int} (hc : -24 ≤ c) : SeenOk (addS s c) :=
  ⟨nodup_addS h.nd, fun x hx => by
    rcases mem_addS.1 hx with h1 | ⟨rfl, h1⟩
    · exact h.neg x h1
    · exact ⟨h1, hc⟩⟩
theorem SeenOk.row : ∀ {r s : List Int}, SeenOk s → (∀ c ∈ r, -24 ≤ c) → SeenOk (seenR s r)
  | [], s, h, _ => h
  | c :: r, s, h, hc => SeenOk.row (r := r) (h.add (hc c (by simp))) (fun x hx => hc x (by simp [hx]))
theorem SeenOk.rows : ∀ {rs : List (List Int)} {s : List Int}, SeenOk s → (∀ r ∈ rs, ∀ c ∈ r, -24 ≤ c) → SeenOk (seenRs s rs)
  | [], s, h, _ => h
  | r :: rs, s, h, hc => SeenOk.rows (rs := rs) (h.row (hc r (by simp))) (fun x hx => hc x (by simp [hx]))
theorem w_anew2 {r : List Int} (hr : Len r) (z : Bool) (hz : z = true → r = []) (hc : ∀ c ∈ r, -24 ≤ c) (e : List D) {s : List Int} (hs : SeenOk s) : C 72 [iS z r e, .dbox 110 0 (ints (toA s)), .dbox 3 0 [.int .i64 s.length]] = some (.own z 3 1 (ints (stepR s r)), [iS z r e, .dbox 110 0 (ints (toA (seenR s r))), .dbox 3 0 [.int .i64 (seenR s r).length]]) := by
  refine wfn (lk := [1, 2]) rfl rfl (fnW_way (q72 _ _ z (ints r) e (ints (toA s)) s.length _) ?_)
  have hcl := w_clone hr z hz e
  have h1 := fun x hx => blk_fun (F := F) (d := d72) (lk := [1, 2]) (p := [1,1,0,1,0,0]) (p0 := [1,1,0,1]) (id := 0) (by kernel_rfl) (st := fun (x : List Int × List Int × List Int) => [(1, .dbox 110 0 (ints (toA x.2.2))), (2, .dbox 3 0 [.int .i64 x.2.2.length]), (5, .own z 3 1 (ints (x.1 ++ x.2.1))), (11, iI r.length), (12, iI x.1.length), (2010045, .dead)]) (I := fun x => x.1.length + x.2.1.length = r.length ∧ SeenOk x.2.2 ∧ ∀ c ∈ x.2.1, -24 ≤ c) (μ := fun x => x.2.1.length)
    (res := fun x => .norm [(1, .dbox 110 0 (ints (toA (seenR x.2.2 x.2.1)))), (2, .dbox 3 0 [.int .i64 (seenR x.2.2 x.2.1).length]), (5, .own z 3 1 (ints (x.1 ++ stepR x.2.2 x.2.1))), (11, iI r.length), (12, iI r.length), (2010045, .dead)])
    (fun x hx => by
      obtain ⟨a, b, s⟩ := x
      obtain ⟨hx1, hx2, hx3⟩ := hx
      dsimp only at hx1 hx2 hx3
      cases b with
      | nil =>
        have e1 : a.length = r.length := by simpa using hx1
        refine .stop (.exit 0 [(1, .dbox 110 0 (ints (toA s))), (2, .dbox 3 0 [.int .i64 s.length]), (5, .own z 3 1 (ints (a ++ []))), (11, iI r.length), (12, iI a.length), (2010045, .dead)]) (wpQ_way (q72_l0a _ _ (ints (toA s)) s.length z (ints (a ++ [])) r.length a.length _) (by simp [e1])) rfl ?_
        simp [blkO, e1, stepR, seenR]
      | cons c b =>
        have hlen : a.length < r.length := by simp at hx1; omega
        have hi' : (a.length : Int) < r.length := by omega
        have hi0 : (0 : Int) ≤ (a.length : Int) := by omega
        have hr' : r.length ≤ 9223372036854775807 := by unfold Len at hr; omega
        have hc := hx3 c (by simp)
        have hok := hx2.len
        have ha := ints_mid a b c
        have hw1 : IntKind.wrap .i64 ((a.length : Int) + 1) = ((a ++ [renC (addS s c) c]).length : Int) := by rw [wr1 hlen hr']; simp
        have hst : ∀ d : Int, a ++ d :: b = (a ++ [d]) ++ b := fun d => by simp
        by_cases h0 : 0 ≤ c
        · have hs' : addS s c = s := by simp [addS, h0]
          have hrc : renC s c = c := by simp [renC, h0]
          have h0n : ¬ c < 0 := by omega
          refine .go (a ++ [c], b, s) (wpQ_way (q72_l0a _ _ (ints (toA s)) s.length z (ints (a ++ c :: b)) r.length a.length _) ?_) ⟨by simp at hx1 ⊢; omega, hx2, fun x hx => hx3 x (by simp [hx])⟩ (by simp) ?_
          · rw [hs', hrc] at hw1
            simp [-Bool.exists_bool, -getElem?_pos, -Int.natCast_add, -List.length_append, hi', ha, h0, h0n, hw1]
          · dsimp only; rw [stepR, hs', hrc]; simp [seenR, hs']
        · have hn := w_number c
          have hv1 : IntKind.wrap .i64 (-1 - c) = ((-1 - c).toNat : Int) := by rw [wr _ (by omega) (by omega)]; omega
          obtain ⟨v, hv⟩ : ∃ v : Nat, v = (-1 - c).toNat := ⟨_, rfl⟩
          have hcv : c = -1 - (v : Int) := by omega
          have hv24 : v < 24 := by omega
          rw [hv1, ← hv] at hn
          have hta := toA_at s hv24
          rw [← hcv] at hta
          have hvi : (v : Int) < 24 := by omega
          by_cases hm : c ∈ s
          · have hs' : addS s c = s := by simp [addS, h0, hm]
            have hrc : renC s c = -1 - (s.idxOf c : Nat) := by simp [renC, h0]
            rw [if_pos hm] at hta
            have hne : ¬ ((s.idxOf c + 1 : Nat) : Int) = 0 := by omega
            have hil := List.idxOf_lt_length_of_mem hm
            have hw2 : IntKind.wrap .i64 (0 - ((s.idxOf c + 1 : Nat) : Int)) = renC s c := by rw [wr _ (by omega) (by omega), hrc]; omega
            have hw2n := hw2
            rw [Int.zero_sub] at hw2n
            refine .go (a ++ [renC s c], b, s) (wpQ_way (q72_l0a _ _ (ints (toA s)) s.length z (ints (a ++ c :: b)) r.length a.length _) ?_) ⟨by simp at hx1 ⊢; omega, hx2, fun x hx => hx3 x (by simp [hx])⟩ (by simp) ?_
            · rw [hs'] at hw1
              have hset := ints_midset a b c (renC s c)
              simp [-Bool.exists_bool, -getElem?_pos, -Int.natCast_add, -List.length_append, hi', ha, h0, hw1, hn, hta, hvi, hne, hw2, hw2n, hset]
            · dsimp only; rw [stepR, hs']; simp [seenR, hs']
          · have hs' : addS s c = s ++ [c] := by simp [addS, h0, hm]
            have hrc : renC (s ++ [c]) c = -1 - (s.length : Nat) := by
              rw [renC, if_neg h0, List.idxOf_append, if_neg hm]; simp
            rw [if_neg hm] at hta
            have hw2 : IntKind.wrap .i64 ((s.length : Int) + 1) = ((s.length + 1 : Nat) : Int) := by rw [wr _ (by omega) (by omega)]; omega
            have hw3 : IntKind.wrap .i64 (0 - ((s.length + 1 : Nat) : Int)) = renC (s ++ [c]) c := by rw [wr _ (by omega) (by omega), hrc]; omega
            have hw3n := hw3
            rw [Int.zero_sub] at hw3n
            have hm' : ¬ (-1 - (v : Int)) ∈ s := by rw [← hcv]; exact hm
            have hset := toA_set hv24 hm'
            rw [← hcv] at hset
            have hta2 := toA_at (s ++ [c]) hv24
            rw [← hcv, if_pos (by simp), List.idxOf_append, if_neg hm] at hta2
            have hix : List.idxOf c [c] + s.length + 1 = s.length + 1 := by simp
            rw [hix] at hta2
            refine .go (a ++ [renC (s ++ [c]) c], b, s ++ [c]) (wpQ_way (q72_l0a _ _ (ints (toA s)) s.length z (ints (a ++ c :: b)) r.length a.length _) ?_) ⟨by simp at hx1 ⊢; omega, by rw [← hs']; exact hx2.add hc, fun x hx => hx3 x (by simp [hx])⟩ (by simp) ?_
            · rw [hs'] at hw1
              have hset2 := ints_midset a b c (renC (s ++ [c]) c)
              have hv23 : (v : Int) ≤ 23 := by omega
              have hlt : v + 1 ≤ 24 := hv24
              have hls : ((s ++ [c]).length : Int) = ((s.length + 1 : Nat) : Int) := by simp
              rw [hls]
              simp [-Bool.exists_bool, -getElem?_pos, -Int.natCast_add, -List.length_append, hi', ha, h0, hw1, hn, hta, hvi, hw2, hw3, hw3n, hset2, hset, hta2, hv23, ints_len, toA_len, hlt, D.cells, setR]
            · dsimp only; rw [stepR, hs']; simp [seenR, hs']) x hx
  have h2 : evP F (Go.Ab.W F) (JW F d72 [1, 2]) d72 [1, 2] [1,1,0,1] [(1, .dbox 110 0 (ints (toA s))), (2, .dbox 3 0 [.int .i64 s.length]), (5, .own z 3 1 (ints r)), (11, iI r.length), (12, iI 0), (2010045, .dead)] = _ := h1 ([], r, s) ⟨by simp, hs, hc⟩
  rw [List.nil_append] at h2
  refine ⟨_, _, _, hcl, ?_⟩
  rw [ints_len]
  exact ⟨_, _, _, _, _, _, h2, rfl⟩
/-- Literals, rows, one by one. -/
def eachL : List Int → List LitR → List LitR
  | _, [] => []
  | s, l :: ls => ⟨l.neg, ⟨l.r.z, stepR s l.r.l, []⟩⟩ :: eachL (seenR s l.r.l) ls
def eachR : List Int → List Row → List Row
  | _, [] => []
  | s, r :: rs => ⟨r.z, stepR s r.l, []⟩ :: eachR (seenR s r.l) rs
structure RowOk (r : Row) : Prop where
  len : Len r.l
  nil : r.z = true → r.l = []
  cod : ∀ c ∈ r.l, -24 ≤ c
abbrev seenLs (s : List Int) (ls : List LitR) : List Int := seenRs s (ls.map fun l => l.r.l)
abbrev seenTs (s : List Int) (ts : List Row) : List Int := seenRs s (ts.map fun r => r.l)
abbrev fA (s : List Int) : IV := .fn 72 [.dbox 110 0 (ints (toA s)), .dbox 3 0 [.int .i64 s.length]]
abbrev bC (c : Cl) : IV := .dbox 39 0 [.sl 2 c.lz (lits c.ls) c.le, .sl 1 c.tz (rws c.ts) c.te, .sl 2 c.cz (lits c.cs) c.ce]
abbrev b0 : IV := .dbox 39 0 [.sl 2 true [] [], .sl 1 true [] [], .sl 2 true [] []]
abbrev bO (us : List LitR) (vs : List Row) (ws : List LitR) : IV := .ptr 39 0 [.own us.isEmpty 35 2 (lits us), .own vs.isEmpty 23 1 (rws vs), .own ws.isEmpty 35 2 (lits ws)]
theorem l_each0 {c : Cl} (hn : c.ls.length ≤ 1000) (hr : ∀ l ∈ c.ls, RowOk l.r) (vs : List Row) (ws : List LitR) (x : List LitR × Nat × List Int) (hx : x.2.1 ≤ c.ls.length ∧ x.1.length = x.2.1 ∧ SeenOk x.2.2) : evP F (Go.Ab.W F) (JW F d66 [1]) d66 [1] [1,1,0,1] [(1, fA x.2.2), (2, bC c), (4, b0), (5, bO x.1 vs ws), (13, iL c.lz c.ls c.le), (14, iI c.ls.length), (15, iI x.2.1)] = some (.norm [(1, fA (seenLs x.2.2 (c.ls.drop x.2.1))), (2, bC c), (4, b0), (5, bO (x.1 ++ eachL x.2.2 (c.ls.drop x.2.1)) vs ws), (13, iL c.lz c.ls c.le), (14, iI c.ls.length), (15, iI c.ls.length)]) :=
  blk_fun (F := F) (d := d66) (lk := [1]) (p := [1,1,0,1,0,0]) (p0 := [1,1,0,1]) (id := 0) (by kernel_rfl) (st := fun (x : List LitR × Nat × List Int) => [(1, fA x.2.2), (2, bC c), (4, b0), (5, bO x.1 vs ws), (13, iL c.lz c.ls c.le), (14, iI c.ls.length), (15, iI x.2.1)]) (I := fun x => x.2.1 ≤ c.ls.length ∧ x.1.length = x.2.1 ∧ SeenOk x.2.2) (μ := fun x => c.ls.length - x.2.1)
    (res := fun x => .norm [(1, fA (seenLs x.2.2 (c.ls.drop x.2.1))), (2, bC c), (4, b0), (5, bO (x.1 ++ eachL x.2.2 (c.ls.drop x.2.1)) vs ws), (13, iL c.lz c.ls c.le), (14, iI c.ls.length), (15, iI c.ls.length)])
    (fun x hx => by
      obtain ⟨us, i, s⟩ := x
      obtain ⟨hx1, hx2, hx3⟩ := hx
      dsimp only at hx1 hx2 hx3
      by_cases hi : i < c.ls.length
      · obtain ⟨l, hl1⟩ := at_lt hi
        have hd : c.ls.drop i = l :: c.ls.drop (i + 1) := by
          rw [List.drop_eq_getElem_cons hi]
          rw [List.getElem?_eq_getElem hi] at hl1
          cases hl1; rfl
        have hok := hr l (List.mem_of_getElem? hl1)
        have hc := w_anew2 hok.len l.r.z hok.nil hok.cod l.r.e hx3
        have hi' : (i : Int) < c.ls.length := by omega
        refine .go (us ++ [⟨l.neg, ⟨l.r.z, stepR s l.r.l, []⟩⟩], i + 1, seenR s l.r.l) (wpQ_way (q66_l0a _ _ (ints (toA s)) s.length c.lz (lits c.ls) c.le c.tz (rws c.ts) c.te c.cz (lits c.cs) c.ce us.isEmpty (lits us) vs.isEmpty (rws vs) ws.isEmpty (lits ws) c.lz (lits c.ls) c.le c.ls.length i _) ?_) ⟨by dsimp only; omega, by simp; omega, hx3.row hok.cod⟩ (by dsimp only; omega) ?_
        · have k1 : us.length + 1 ≤ 9223372036854775807 := by omega
          have k2 : (us.length + 1) * 32 ≤ 140737488355328 := by omega
          cases hneg : l.neg <;> simp [-Bool.exists_bool, -getElem?_pos, -Int.natCast_add, hi', lits_at hl1, hneg, hc, wr1 hi (by omega), lits_len, k1, k2, lits_append, lits_cons, lits_nil]
        · dsimp only; rw [hd]; simp [eachL, seenRs]
      · have e1 : i = c.ls.length := by omega
        subst e1
        refine .stop (.exit 0 [(1, fA s), (2, bC c), (4, b0), (5, bO us vs ws), (13, iL c.lz c.ls c.le), (14, iI c.ls.length), (15, iI c.ls.length)]) (wpQ_way (q66_l0a _ _ (ints (toA s)) s.length c.lz (lits c.ls) c.le c.tz (rws c.ts) c.te c.cz (lits c.cs) c.ce us.isEmpty (lits us) vs.isEmpty (rws vs) ws.isEmpty (lits ws) c.lz (lits c.ls) c.le c.ls.length _ _) (by simp)) rfl ?_
        simp [blkO, eachL, seenRs]) x hx
theorem l_each2 {c : Cl} (hn : c.ts.length ≤ 1000) (hr : ∀ r ∈ c.ts, RowOk r) (us : List LitR) (ws : List LitR) (x : List Row × Nat × List Int) (hx : x.2.1 ≤ c.ts.length ∧ x.1.length = x.2.1 ∧ SeenOk x.2.2) : evP F (Go.Ab.W F) (JW F d66 [1]) d66 [1] [1,1,1,0,1] [(1, fA x.2.2), (2, bC c), (4, b0), (5, bO us x.1 ws), (33, iR c.tz c.ts c.te), (34, iI c.ts.length), (35, iI x.2.1)] = some (.norm [(1, fA (seenTs x.2.2 (c.ts.drop x.2.1))), (2, bC c), (4, b0), (5, bO us (x.1 ++ eachR x.2.2 (c.ts.drop x.2.1)) ws), (33, iR c.tz c.ts c.te), (34, iI c.ts.length), (35, iI c.ts.length)]) :=
  blk_fun (F := F) (d := d66) (lk := [1]) (p := [1,1,1,0,1,0,0]) (p0 := [1,1,1,0,1]) (id := 2) (by kernel_rfl) (st := fun (x : List Row × Nat × List Int) => [(1, fA x.2.2), (2, bC c), (4, b0), (5, bO us x.1 ws), (33, iR c.tz c.ts c.te), (34, iI c.ts.length), (35, iI x.2.1)]) (I := fun x => x.2.1 ≤ c.ts.length ∧ x.1.length = x.2.1 ∧ SeenOk x.2.2) (μ := fun x => c.ts.length - x.2.1)
    (res := fun x => .norm [(1, fA (seenTs x.2.2 (c.ts.drop x.2.1))), (2, bC c), (4, b0), (5, bO us (x.1 ++ eachR x.2.2 (c.ts.drop x.2.1)) ws), (33, iR c.tz c.ts c.te), (34, iI c.ts.length), (35, iI c.ts.length)])
    (fun x hx => by
      obtain ⟨vs, i, s⟩ := x
      obtain ⟨hx1, hx2, hx3⟩ := hx
      dsimp only at hx1 hx2 hx3
      by_cases hi : i < c.ts.length
      · obtain ⟨l, hl1⟩ := at_lt hi
        have hd : c.ts.drop i = l :: c.ts.drop (i + 1) := by
          rw [List.drop_eq_getElem_cons hi]
          rw [List.getElem?_eq_getElem hi] at hl1
          cases hl1; rfl
        have hok := hr l (List.mem_of_getElem? hl1)
        have hc := w_anew2 hok.len l.z hok.nil hok.cod l.e hx3
        have hi' : (i : Int) < c.ts.length := by omega
        refine .go (vs ++ [⟨l.z, stepR s l.l, []⟩], i + 1, seenR s l.l) (wpQ_way (q66_l2a _ _ (ints (toA s)) s.length c.lz (lits c.ls) c.le c.tz (rws c.ts) c.te c.cz (lits c.cs) c.ce us.isEmpty (lits us) vs.isEmpty (rws vs) ws.isEmpty (lits ws) c.tz (rws c.ts) c.te c.ts.length i _) ?_) ⟨by dsimp only; omega, by simp; omega, hx3.row hok.cod⟩ (by dsimp only; omega) ?_
        · have k1 : vs.length + 1 ≤ 9223372036854775807 := by omega
          have k2 : (vs.length + 1) * 24 ≤ 140737488355328 := by omega
          simp [-Bool.exists_bool, -getElem?_pos, -Int.natCast_add, hi', rws_at hl1, hc, wr1 hi (by omega), rws_len, k1, k2, rws_append, rws_cons, rws_nil]
        · dsimp only; rw [hd]; simp [eachR, seenRs]
      · have e1 : i = c.ts.length := by omega
        subst e1
        refine .stop (.exit 2 [(1, fA s), (2, bC c), (4, b0), (5, bO us vs ws), (33, iR c.tz c.ts c.te), (34, iI c.ts.length), (35, iI c.ts.length)]) (wpQ_way (q66_l2a _ _ (ints (toA s)) s.length c.lz (lits c.ls) c.le c.tz (rws c.ts) c.te c.cz (lits c.cs) c.ce us.isEmpty (lits us) vs.isEmpty (rws vs) ws.isEmpty (lits ws) c.tz (rws c.ts) c.te c.ts.length _ _) (by simp)) rfl ?_
        simp [blkO, eachR, seenRs]) x hx
theorem l_each4 {c : Cl} (hn : c.cs.length ≤ 1000) (hr : ∀ l ∈ c.cs, RowOk l.r) (us : List LitR) (vs : List Row) (x : List LitR × Nat × List Int) (hx : x.2.1 ≤ c.cs.length ∧ x.1.length = x.2.1 ∧ SeenOk x.2.2) : evP F (Go.Ab.W F) (JW F d66 [1]) d66 [1] [1,1,1,1,0,1] [(1, fA x.2.2), (4, b0), (5, bO us vs x.1), (49, iL c.cz c.cs c.ce), (50, iI c.cs.length), (51, iI x.2.1)] = some (.norm [(1, fA (seenLs x.2.2 (c.cs.drop x.2.1))), (4, b0), (5, bO us vs (x.1 ++ eachL x.2.2 (c.cs.drop x.2.1))), (49, iL c.cz c.cs c.ce), (50, iI c.cs.length), (51, iI c.cs.length)]) :=
  blk_fun (F := F) (d := d66) (lk := [1]) (p := [1,1,1,1,0,1,0,0]) (p0 := [1,1,1,1,0,1]) (id := 4) (by kernel_rfl) (st := fun (x : List LitR × Nat × List Int) => [(1, fA x.2.2), (4, b0), (5, bO us vs x.1), (49, iL c.cz c.cs c.ce), (50, iI c.cs.length), (51, iI x.2.1)]) (I := fun x => x.2.1 ≤ c.cs.length ∧ x.1.length = x.2.1 ∧ SeenOk x.2.2) (μ := fun x => c.cs.length - x.2.1)
    (res := fun x => .norm [(1, fA (seenLs x.2.2 (c.cs.drop x.2.1))), (4, b0), (5, bO us vs (x.1 ++ eachL x.2.2 (c.cs.drop x.2.1))), (49, iL c.cz c.cs c.ce), (50, iI c.cs.length), (51, iI c.cs.length)])
    (fun x hx => by
      obtain ⟨ws, i, s⟩ := x
      obtain ⟨hx1, hx2, hx3⟩ := hx
      dsimp only at hx1 hx2 hx3
      by_cases hi : i < c.cs.length
      · obtain ⟨l, hl1⟩ := at_lt hi
        have hd : c.cs.drop i = l :: c.cs.drop (i + 1) := by
          rw [List.drop_eq_getElem_cons hi]
          rw [List.getElem?_eq_getElem hi] at hl1
          cases hl1; rfl
        have hok := hr l (List.mem_of_getElem? hl1)
        have hc := w_anew2 hok.len l.r.z hok.nil hok.cod l.r.e hx3
        have hi' : (i : Int) < c.cs.length := by omega
        refine .go (ws ++ [⟨l.neg, ⟨l.r.z, stepR s l.r.l, []⟩⟩], i + 1, seenR s l.r.l) (wpQ_way (q66_l4a _ _ (ints (toA s)) s.length us.isEmpty (lits us) vs.isEmpty (rws vs) ws.isEmpty (lits ws) c.cz (lits c.cs) c.ce c.cs.length i _) ?_) ⟨by dsimp only; omega, by simp; omega, hx3.row hok.cod⟩ (by dsimp only; omega) ?_
        · have k1 : ws.length + 1 ≤ 9223372036854775807 := by omega
          have k2 : (ws.length + 1) * 32 ≤ 140737488355328 := by omega
          cases hneg : l.neg <;> simp [-Bool.exists_bool, -getElem?_pos, -Int.natCast_add, hi', lits_at hl1, hneg, hc, wr1 hi (by omega), lits_len, k1, k2, lits_append, lits_cons, lits_nil]
        · dsimp only; rw [hd]; simp [eachL, seenRs]
      · have e1 : i = c.cs.length := by omega
        subst e1
        refine .stop (.exit 4 [(1, fA s), (4, b0), (5, bO us vs ws), (49, iL c.cz c.cs c.ce), (50, iI c.cs.length), (51, iI c.cs.length)]) (wpQ_way (q66_l4a _ _ (ints (toA s)) s.length us.isEmpty (lits us) vs.isEmpty (rws vs) ws.isEmpty (lits ws) c.cz (lits c.cs) c.ce c.cs.length _ _) (by simp)) rfl ?_
        simp [blkO, eachL, seenRs]) x hx
structure ClRow (c : Cl) : Prop where
  l5 : c.ls.length ≤ 1000
  t3 : c.ts.length ≤ 1000
  c3 : c.cs.length ≤ 1000
  ls : ∀ l ∈ c.ls, RowOk l.r
  ts : ∀ r ∈ c.ts, RowOk r
  cs : ∀ l ∈ c.cs, RowOk l.r
theorem w_each {c : Cl} (h : ClRow c) {s : List Int} (hs : SeenOk s) : C 66 [iC c, fA s] = some (.agg [.own (eachL s c.ls).isEmpty 35 2 (lits (eachL s c.ls)), .own (eachR (seenLs s c.ls) c.ts).isEmpty 23 1 (rws (eachR (seenLs s c.ls) c.ts)), .own (eachL (seenTs (seenLs s c.ls) c.ts) c.cs).isEmpty 35 2 (lits (eachL (seenTs (seenLs s c.ls) c.ts) c.cs))], [iC c, fA (seenLs (seenTs (seenLs s c.ls) c.ts) c.cs)]) := by
  refine wfn (lk := [1]) rfl rfl (fnW_way (q66 _ _ c.lz (lits c.ls) c.le c.tz (rws c.ts) c.te c.cz (lits c.cs) c.ce (ints (toA s)) s.length _) ?_)
  have hs1 : SeenOk (seenLs s c.ls) := hs.rows (fun r hr => by
    obtain ⟨l, hl, rfl⟩ := List.mem_map.1 hr
    exact (h.ls l hl).cod)
  have hs2 : SeenOk (seenTs (seenLs s c.ls) c.ts) := hs1.rows (fun r hr => by
    obtain ⟨l, hl, rfl⟩ := List.mem_map.1 hr
    exact (h.ts l hl).cod)
  have h1 := l_each0 h.l5 h.ls [] [] ([], 0, s) ⟨Nat.zero_le _, rfl, hs⟩
  have h2 := l_each2 h.t3 h.ts (eachL s c.ls) [] ([], 0, seenLs s c.ls) ⟨Nat.zero_le _, rfl, hs1⟩
  have h3 := l_each4 h.c3 h.cs (eachL s c.ls) (eachR (seenLs s c.ls) c.ts) ([], 0, seenTs (seenLs s c.ls) c.ts) ⟨Nat.zero_le _, rfl, hs2⟩
  simp only [List.drop_zero, List.nil_append] at h1 h2 h3
  rw [lits_len]
  refine .inl ⟨_, _, _, _, _, _, _, _, _, _, _, _, _, _, _, _, _, _, _, _, _, _, h1, ?_⟩
  rw [rws_len]
  refine .inl ⟨_, _, _, _, _, _, _, _, _, _, _, _, _, _, _, _, _, _, _, _, _, _, h2, ?_⟩
  rw [lits_len]
  exact .inl ⟨_, _, _, _, _, _, _, _, _, _, _, _, _, h3, rfl⟩
end Go.Proofs.YtmldmhbdeejcnaaDoor.Ab

/- Normal clauses, clauses that are the same: what the program's functions hand back. For every input; no condition. -/
set_option linter.unusedVariables false
set_option linter.unusedSimpArgs false
set_option maxRecDepth 100000
namespace Go.Proofs.YtmldmhbdeejcnaaDoor.Ab
open Go Go.Ab Go.Qu Go.Proofs
attribute [local simp] and_assoc
theorem seenR_self {s r : List Int} : ∀ c ∈ r, c < 0 → c ∈ seenR s r := fun c hc h0 => mem_seenR.2 (.inr ⟨hc, h0⟩)
theorem eachL_c : ∀ (ls : List LitR) (s t : List Int), (eachL s ls).map LitR.c = ls.map fun l => (l.neg, renR (seenLs s ls ++ t) l.r.l)
  | [], s, t => rfl
  | l :: ls, s, t => by
    have e1 : seenLs s (l :: ls) = seenLs (seenR s l.r.l) ls := rfl
    obtain ⟨u, hu⟩ := pre_seenRs (ls.map fun l => l.r.l) (seenR s l.r.l)
    rw [eachL, List.map_cons, List.map_cons, e1, eachL_c ls (seenR s l.r.l) t]
    congr 1
    show (l.neg, stepR s l.r.l) = _
    rw [stepR_ren, show seenLs (seenR s l.r.l) ls = seenR s l.r.l ++ u from hu, List.append_assoc, renR_pre (u ++ t) seenR_self]
theorem eachR_c : ∀ (ts : List Row) (s t : List Int), (eachR s ts).map (·.l) = ts.map fun r => renR (seenTs s ts ++ t) r.l
  | [], s, t => rfl
  | r :: ts, s, t => by
    have e1 : seenTs s (r :: ts) = seenTs (seenR s r.l) ts := rfl
    obtain ⟨u, hu⟩ := pre_seenRs (ts.map fun r => r.l) (seenR s r.l)
    rw [eachR, List.map_cons, List.map_cons, e1, eachR_c ts (seenR s r.l) t]
    congr 1
    show stepR s r.l = _
    rw [stepR_ren, show seenTs (seenR s r.l) ts = seenR s r.l ++ u from hu, List.append_assoc, renR_pre (u ++ t) seenR_self]
/-- A clause each part of which stands once. -/
def onceC' (c : Cl) : Cl := ⟨(onceK LitR.c [] c.ls).isEmpty, onceK LitR.c [] c.ls, [], (onceK (fun r : Row => r.l) [] c.ts).isEmpty, onceK (fun r : Row => r.l) [] c.ts, [], (onceK LitR.c [] c.cs).isEmpty, onceK LitR.c [] c.cs, []⟩
def renumC (c : Cl) : Cl := ⟨(eachL [] c.ls).isEmpty, eachL [] c.ls, [], (eachR (seenLs [] c.ls) c.ts).isEmpty, eachR (seenLs [] c.ls) c.ts, [], (eachL (seenTs (seenLs [] c.ls) c.ts) c.cs).isEmpty, eachL (seenTs (seenLs [] c.ls) c.ts) c.cs, []⟩
def anewC (c : Cl) : Cl := renumC (onceC' c)
theorem seen_app (s : List Int) (a b : List (List Int)) : seenRs s (a ++ b) = seenRs (seenRs s a) b := List.foldl_append
theorem renum_c (c : Cl) : (renumC c).c = renCC (seenRs [] c.c.rows) c.c := by
  have e1 : seenRs [] c.c.rows = seenLs (seenTs (seenLs [] c.ls) c.ts) c.cs := by
    simp only [CC.rows, Cl.c, List.map_map, seen_app]; rfl
  obtain ⟨u, hu⟩ := pre_seenRs (c.cs.map fun l => l.r.l) (seenTs (seenLs [] c.ls) c.ts)
  obtain ⟨v, hv⟩ := pre_seenRs (c.ts.map fun r => r.l) (seenLs [] c.ls)
  have e2 : seenRs [] c.c.rows = seenTs (seenLs [] c.ls) c.ts ++ u := e1.trans hu
  have e3 : seenRs [] c.c.rows = seenLs [] c.ls ++ (v ++ u) := by rw [e2, ← List.append_assoc]; exact congrArg (· ++ u) hv
  have h1 := eachL_c c.ls [] (v ++ u)
  have h2 := eachR_c c.ts (seenLs [] c.ls) u
  have h3 := eachL_c c.cs (seenTs (seenLs [] c.ls) c.ts) []
  rw [← e3] at h1
  rw [← e2] at h2
  rw [List.append_nil, ← e1] at h3
  generalize seenRs [] c.c.rows = S at *
  unfold renumC Cl.c renCC
  dsimp only
  rw [h1, h2, h3]
  simp [List.map_map, Function.comp_def, renL, LitR.c]
theorem once_c (c : Cl) : (onceC' c).c = onceC c.c := by
  unfold onceC' Cl.c onceC
  dsimp only
  rw [once_map, once_map, once_map]; rfl
theorem anew_c (c : Cl) : (anewC c).c = normC c.c := by
  rw [anewC, renum_c, once_c]; rfl
theorem clRow_once {c : Cl} (h : ClRow c) : ClRow (onceC' c) :=
  ⟨Nat.le_trans (once_len LitR.c c.ls []) (by simpa using h.l5), Nat.le_trans (once_len (fun r : Row => r.l) c.ts []) (by simpa using h.t3), Nat.le_trans (once_len LitR.c c.cs []) (by simpa using h.c3),
   fun l hl => h.ls l (by simpa using once_sub LitR.c c.ls [] l hl), fun r hr => h.ts r (by simpa using once_sub (fun r : Row => r.l) c.ts [] r hr), fun l hl => h.cs l (by simpa using once_sub LitR.c c.cs [] l hl)⟩
abbrev oC (c : Cl) : IV := .agg [.own c.lz 35 2 (lits c.ls), .own c.tz 23 1 (rws c.ts), .own c.cz 35 2 (lits c.cs)]
theorem w_anew {c : Cl} (h : ClRow c) : C 47 [iC c] = some (oC (anewC c), [iC c]) := by
  refine wfn (lk := []) rfl rfl (fnW_way (q47 _ _ c.lz (lits c.ls) c.le c.tz (rws c.ts) c.te c.cz (lits c.cs) c.ce _) ?_)
  have h1 := w_clonce h.l5 (fun l hl => (h.ls l hl).len) c.lz c.le
  have h2 := w_clonce h.c3 (fun l hl => (h.cs l hl).len) c.cz c.ce
  have h3 := fun x hx => blk_fun (F := F) (d := d47) (lk := []) (p := [1,1,0,1,0,0]) (p0 := [1,1,0,1]) (id := 0) (by kernel_rfl) (st := fun (x : List Row × Nat) => [(2, b0), (3, bO (onceK LitR.c [] c.ls) x.1 (onceK LitR.c [] c.cs)), (16, iR c.tz c.ts c.te), (17, iI c.ts.length), (18, iI x.2)]) (I := fun x => x.2 ≤ c.ts.length ∧ x.1.length ≤ x.2) (μ := fun x => c.ts.length - x.2)
    (res := fun x => .norm [(2, b0), (3, bO (onceK LitR.c [] c.ls) (onceK (fun r : Row => r.l) x.1 (c.ts.drop x.2)) (onceK LitR.c [] c.cs)), (16, iR c.tz c.ts c.te), (17, iI c.ts.length), (18, iI c.ts.length)])
    (fun x hx => by
      obtain ⟨us, i⟩ := x
      obtain ⟨hx1, hx2⟩ := hx
      dsimp only at hx1 hx2
      have hb := h.t3
      by_cases hi : i < c.ts.length
      · obtain ⟨l, hl1⟩ := at_lt hi
        have hd : c.ts.drop i = l :: c.ts.drop (i + 1) := by
          rw [List.drop_eq_getElem_cons hi]
          rw [List.getElem?_eq_getElem hi] at hl1
          cases hl1; rfl
        have hc := w_hasrow (h.ts l (List.mem_of_getElem? hl1)).len (ts := us) (by omega) us.isEmpty []
        have hi' : (i : Int) < c.ts.length := by omega
        by_cases hm : l.l ∈ us.map (fun r : Row => r.l)
        · rw [decide_eq_true hm] at hc
          refine .go (us, i + 1) (wpQ_way (q47_l0a _ _ _ (lits (onceK LitR.c [] c.ls)) us.isEmpty (rws us) _ (lits (onceK LitR.c [] c.cs)) c.tz (rws c.ts) c.te _ i _) ?_) ⟨by dsimp only; omega, by dsimp only; omega⟩ (by dsimp only; omega) ?_
          · simp [-Bool.exists_bool, -getElem?_pos, -Int.natCast_add, hi', rws_at hl1, hc, wr1 hi (by omega)]
          · dsimp only; rw [hd, onceK, if_pos hm]
        · rw [decide_eq_false hm] at hc
          refine .go (us ++ [l], i + 1) (wpQ_way (q47_l0a _ _ _ (lits (onceK LitR.c [] c.ls)) us.isEmpty (rws us) _ (lits (onceK LitR.c [] c.cs)) c.tz (rws c.ts) c.te _ i _) ?_) ⟨by dsimp only; omega, by simp; omega⟩ (by dsimp only; omega) ?_
          · have k1 : us.length + 1 ≤ 9223372036854775807 := by omega
            have k2 : (us.length + 1) * 24 ≤ 140737488355328 := by omega
            simp [-Bool.exists_bool, -getElem?_pos, -Int.natCast_add, hi', rws_at hl1, hc, wr1 hi (by omega), rws_len, k1, k2, rws_append, rws_cons, rws_nil]
          · dsimp only; rw [hd, onceK, if_neg hm]
      · have e1 : i = c.ts.length := by omega
        subst e1
        refine .stop (.exit 0 [(2, b0), (3, bO (onceK LitR.c [] c.ls) us (onceK LitR.c [] c.cs)), (16, iR c.tz c.ts c.te), (17, iI c.ts.length), (18, iI c.ts.length)]) (wpQ_way (q47_l0a _ _ _ (lits (onceK LitR.c [] c.ls)) us.isEmpty (rws us) _ (lits (onceK LitR.c [] c.cs)) c.tz (rws c.ts) c.te _ _ _) (by simp)) rfl ?_
        simp [blkO, onceK]) x hx
  have h4 : evP F (Go.Ab.W F) (JW F d47 []) d47 [] [1,1,0,1] [(2, b0), (3, bO (onceK LitR.c [] c.ls) [] (onceK LitR.c [] c.cs)), (16, iR c.tz c.ts c.te), (17, iI c.ts.length), (18, iI 0)] = _ := h3 ([], 0) ⟨Nat.zero_le _, Nat.le_refl _⟩
  rw [List.drop_zero] at h4
  have h5 := w_each (c := onceC' c) (clRow_once h) (s := []) ⟨List.nodup_nil, by simp⟩
  refine ⟨_, _, _, h1, _, _, _, h2, ?_⟩
  rw [rws_len]
  refine ⟨_, _, _, _, _, _, _, _, _, _, _, h4, ?_⟩
  exact .inl ⟨_, _, _, _, _, _, _, _, _, h5, rfl⟩
/-! ### The same -/
structure ClLen (c : Cl) : Prop where
  l5 : c.ls.length ≤ 1000
  t3 : c.ts.length ≤ 1000
  c3 : c.cs.length ≤ 1000
  ls : ∀ l ∈ c.ls, Len l.r.l
  ts : ∀ r ∈ c.ts, Len r.l
  cs : ∀ l ∈ c.cs, Len l.r.l
/-! ### Of clauses that may be -/
def NilC (c : Cl) : Prop := ∀ r ∈ rowsOf c, r.z = true → r.l = []
theorem clRow_of {g : List Sym} {c : Cl} (h : clB g c = true) (hn : NilC c) : ClRow c := by
  have hk := clOk.1 ((clB_c g c).symm.trans h)
  have hc := cl_codes hk
  have hl : ∀ l ∈ c.ls, atomB g l.r.l = true := fun l hl => hk.la l.c (by simp [Cl.c]; exact ⟨l, hl, rfl⟩)
  have hcs : ∀ l ∈ c.cs, atomB g l.r.l = true := fun l hl => hk.ca l.c (by simp [Cl.c]; exact ⟨l, hl, rfl⟩)
  have ht : ∀ r ∈ c.ts, rowB g r.l = true := fun r hr => by
    obtain ⟨k, hk⟩ := hk.tr
    exact (hk r.l (by simp [Cl.c]; exact ⟨r, hr, rfl⟩)).1
  have e1 : c.c.ls.length = c.ls.length := by simp [Cl.c]
  have e2 : c.c.ts.length = c.ts.length := by simp [Cl.c]
  have e3 : c.c.cs.length = c.cs.length := by simp [Cl.c]
  have h1 := hk.l5; have h2 := hk.t3; have h3 := hk.c3
  refine ⟨by omega, by omega, by omega, fun l hl' => ?_, fun r hr => ?_, fun l hl' => ?_⟩
  · have := atom_codes (hl l hl')
    exact ⟨by have := this.1; unfold Len; omega, hn _ (by simp [rowsOf]; exact .inl ⟨l, hl', rfl⟩), fun c hc => (this.2.1 c hc).1⟩
  · exact ⟨row_len (ht r hr), hn _ (by simp [rowsOf, hr]), fun c hc => (row_codes (ht r hr) c hc).1⟩
  · have := atom_codes (hcs l hl')
    exact ⟨by have := this.1; unfold Len; omega, hn _ (by simp [rowsOf]; exact .inr (.inr ⟨l, hl', rfl⟩)), fun c hc => (this.2.1 c hc).1⟩
theorem anew_ok {g : List Sym} {c : Cl} (h : clB g c = true) : clB g (anewC c) = true := by
  rw [clB_c, anew_c]
  exact clOk.2 (norm_ok (clOk.1 ((clB_c g c).symm.trans h)))
theorem w_normal (z : Bool) (g : List Sym) (e : List D) {c : Cl} (hn : NilC c) : C 18 [iG z g e, iC c] = some (if clB g c = true then .tup [oC (anewC c), iI 0] else .tup [.d (.agg [.sl 2 true [] [], .sl 1 true [] [], .sl 2 true [] []]), iI 800], [iG z g e, iC c]) := by
  refine wfn (lk := []) rfl rfl (fnW_way (q18 _ _ z (syms g) e c.lz (lits c.ls) c.le c.tz (rws c.ts) c.te c.cz (lits c.cs) c.ce _) ?_)
  have h1 := w_clmay z g e c
  refine ⟨_, _, _, h1, ?_⟩
  cases h : clB g c
  · rfl
  · have h2 := w_anew (clRow_of h hn)
    rw [condW_tt]
    exact ⟨_, _, _, _, _, _, _, h2, rfl⟩
end Go.Proofs.YtmldmhbdeejcnaaDoor.Ab

/- Rows that become others: what stands for each variable, and the search for it. Plain lists; no condition. -/
set_option linter.unusedVariables false
set_option linter.unusedSimpArgs false
namespace Go.Qu
open Go Go.Ab

/-- What stands for each variable, as far as something does. -/
abbrev Bs := Nat → Option (List Int)
def Bs.upd (s : Bs) (v : Nat) (t : List Int) : Bs := fun w => if w = v then some t else s w
def vN (c : Int) : Nat := (-1 - c).toNat
/-- What makes codes others, beside what stands. -/
def growF (g : List Sym) : Bs → List Int → List Int → Option Bs
  | s, [], b => if b = [] then some s else none
  | s, c :: a, b => if b = [] then none else
    if 0 ≤ c then (if b.head? = some c then growF g s a b.tail else none)
    else match lenN g b 1 with
      | none => none
      | some k => match s (vN c) with
        | none => growF g (s.upd (vN c) (b.take k)) a (b.drop k)
        | some t => if t = b.take k then growF g s a (b.drop k) else none
/-- Whatever stands in one stands in the other. -/
def Bs.le (s u : Bs) : Prop := ∀ v t, s v = some t → u v = some t
theorem Bs.le_refl (s : Bs) : s.le s := fun _ _ h => h
theorem Bs.le_trans {s u w : Bs} (h : s.le u) (h' : u.le w) : s.le w := fun v t e => h' v t (h v t e)
theorem Bs.le_upd {s : Bs} {v : Nat} (t : List Int) (h : s v = none) : s.le (s.upd v t) := fun w u e => by
  unfold Bs.upd
  split
  · rename_i h1; subst h1; rw [h] at e; cases e
  · exact e
/-- Terms for all variables. -/
abbrev Sb := Nat → List Int
def Sb.Ok (g : List Sym) (σ : Sb) : Prop := ∀ v, lenN g (σ v) 1 = some (σ v).length
def Bs.leS (s : Bs) (σ : Sb) : Prop := ∀ v t, s v = some t → σ v = t
def appC (σ : Sb) (c : Int) : List Int := if 0 ≤ c then [c] else σ (vN c)
def app (σ : Sb) (a : List Int) : List Int := a.flatMap (appC σ)
theorem app_cons (σ : Sb) (c : Int) (a : List Int) : app σ (c :: a) = appC σ c ++ app σ a := rfl
/-- What was found makes codes others. -/
theorem grow_sound {g : List Sym} : ∀ {a b : List Int} {s u : Bs}, growF g s a b = some u → s.le u ∧ (∀ c ∈ a, c < 0 → (u (vN c)).isSome = true) ∧ (∀ v t, u v = some t → s v = some t ∨ lenN g t 1 = some t.length) ∧ ∀ σ : Sb, u.leS σ → app σ a = b
  | [], b, s, u, h => by
    rw [growF] at h
    split at h
    · rename_i hb
      cases h
      exact ⟨Bs.le_refl s, by simp, fun v t e => .inl e, fun σ _ => by rw [hb]; rfl⟩
    · cases h
  | c :: a, b, s, u, h => by
    rw [growF] at h
    split at h
    · cases h
    rename_i hb
    by_cases h0 : 0 ≤ c
    · rw [if_pos h0] at h
      split at h
      · rename_i hh
        obtain ⟨h1, h2, h3, h4⟩ := grow_sound h
        refine ⟨h1, fun x hx hx0 => ?_, h3, fun σ hσ => ?_⟩
        · rcases List.mem_cons.1 hx with rfl | hx
          · omega
          · exact h2 x hx hx0
        · rw [app_cons, appC, if_pos h0, h4 σ hσ]
          cases b with
          | nil => exact absurd rfl hb
          | cons y b => simp at hh; subst hh; rfl
      · cases h
    · rw [if_neg h0] at h
      split at h
      · cases h
      rename_i k hk
      have hlt := lenN_take hk
      have hlen : (b.take k).length = k := by have := (lenN_le hk).1; simp; omega
      split at h
      · rename_i hs
        obtain ⟨h1, h2, h3, h4⟩ := grow_sound h
        have hv : u (vN c) = some (b.take k) := h1 _ _ (by simp [Bs.upd])
        refine ⟨Bs.le_trans (Bs.le_upd _ hs) h1, fun x hx hx0 => ?_, fun v t e => ?_, fun σ hσ => ?_⟩
        · rcases List.mem_cons.1 hx with rfl | hx
          · rw [hv]; rfl
          · exact h2 x hx hx0
        · rcases h3 v t e with h5 | h5
          · unfold Bs.upd at h5
            split at h5
            · cases h5; exact .inr (by rw [hlen]; exact hlt)
            · exact .inl h5
          · exact .inr h5
        · rw [app_cons, appC, if_neg h0, hσ _ _ hv, h4 σ hσ, List.take_append_drop]
      · rename_i t hs
        split at h
        · rename_i ht
          subst ht
          obtain ⟨h1, h2, h3, h4⟩ := grow_sound h
          have hv : u (vN c) = some (b.take k) := h1 _ _ hs
          refine ⟨h1, fun x hx hx0 => ?_, h3, fun σ hσ => ?_⟩
          · rcases List.mem_cons.1 hx with rfl | hx
            · rw [hv]; rfl
            · exact h2 x hx hx0
          · rw [app_cons, appC, if_neg h0, hσ _ _ hv, h4 σ hσ, List.take_append_drop]
        · cases h
/-! ### The search -/
/-- A part: its codes, and which ones it may become: their places, what they are. -/
structure Pt where
  codes : List Int
  cand : List (Nat × List Int)
def okB (g : List Sym) (s : Bs) (a b : List Int) : Bool := (growF g s a b).isSome
/-! ### To say as much -/
def defS (u : Bs) : Sb := fun v => match u v with
  | some t => t
  | none => if v ≤ 23 then [-1 - (v : Int)] else [-1]
end Go.Qu

/- What says as much as what: itself, through a third; its point is under the other one's; clauses and their normal ones. Plain lists; no condition. -/
set_option linter.unusedVariables false
set_option linter.unusedSimpArgs false
namespace Go.Qu
open Go Go.Ab

theorem arOf_var {g : List Sym} {c : Int} (h : c < 0) (h2 : -24 ≤ c) : arOf g c = some 0 := by rw [arOf, if_pos h, if_pos h2]
theorem lenN_one {g : List Sym} {c : Int} (h : c < 0) (h2 : -24 ≤ c) : lenN g [c] 1 = some 1 := by simp [lenN, arOf_var h h2]
/-- Terms put into terms. -/
theorem app_lenN {g : List Sym} {σ : Sb} (hσ : σ.Ok g) : ∀ {r : List Int} {n : Nat}, lenN g r n = some r.length → lenN g (app σ r) n = some (app σ r).length
  | [], 0, h => rfl
  | c :: r, 0, h => by simp [lenN] at h
  | [], n + 1, h => by simp [lenN] at h
  | c :: r, n + 1, h => by
    obtain ⟨a, m, ha, hm, hk⟩ := lenN_some h
    simp only [List.length_cons, Nat.add_right_cancel_iff] at hk
    have ih := app_lenN hσ (r := r) (n := n + a) (by rw [hm, hk])
    rw [app_cons]
    unfold appC
    split
    · rename_i h0
      rw [List.singleton_append, lenN_cons ha, ih]; simp
    · rename_i h0
      have ha0 : a = 0 := by
        rw [arOf, if_pos (by omega)] at ha
        split at ha
        · cases ha; rfl
        · cases ha
      subst ha0
      have h1 := lenN_split (r := σ (vN c) ++ app σ r) (n := 1) n (lenN_app (app σ r) (hσ (vN c)))
      rw [Nat.add_comm 1 n] at h1
      rw [Nat.add_zero] at ih
      rw [h1, List.drop_left, ih]; simp
/-! ### Points -/
theorem one_codes {g : List Sym} {t : List Int} (h : lenN g t 1 = some t.length) : 1 ≤ t.length ∧ Known g t := by
  have h1 := parts_one h
  rw [List.take_length] at h1
  exact ⟨(lenN_le h).2, fun c hc => (arOf_lt (parts_codes _ t (Nat.le_refl _) h1 c hc)).2⟩
/-! ### Normal clauses -/
end Go.Qu

/- Rows that become others: what the program's functions hand back. For every input; no condition. -/
set_option linter.unusedVariables false
set_option linter.unusedSimpArgs false
set_option maxRecDepth 100000
namespace Go.Proofs.YtmldmhbdeejcnaaDoor.Ab
open Go Go.Ab Go.Qu Go.Proofs
attribute [local simp] and_assoc
/-- The table of what stands for variables. -/
def bsD (s : Bs) : List D := (List.range 24).map fun v => match s v with | none => .sl 1 true [] [] | some t => .sl 1 false (ints t) []
theorem bsD_len (s : Bs) : (bsD s).length = 24 := by simp [bsD]
theorem bsD_at (s : Bs) {v : Nat} (hv : v < 24) : (bsD s)[v]? = some (match s v with | none => .sl 1 true [] [] | some t => .sl 1 false (ints t) []) := by
  simp [bsD, hv]
theorem bsD_set (s : Bs) {v : Nat} (hv : v < 24) (t : List Int) : (bsD s).set v (.sl 1 false (ints t) []) = bsD (s.upd v t) := by
  refine List.ext_getElem (by simp [bsD]) (fun i h1 h2 => ?_)
  have hi : i < 24 := by simpa [bsD] using h1
  rw [List.getElem_set]
  by_cases hvi : v = i
  · subst hvi
    rw [if_pos rfl]
    simp [bsD, Bs.upd]
  · rw [if_neg hvi]
    have hne : ¬ i = v := fun e => hvi e.symm
    simp [bsD, Bs.upd, hne]
theorem width_one : ∀ (l : List D), (∀ x ∈ l, D.width x = 1) → D.widthL l = l.length
  | [], _ => by simp [D.widthL]
  | x :: l, h => by
    have := width_one l (fun y hy => h y (by simp [hy]))
    simp [D.widthL, h x (by simp), this]; omega
/-- As the program goes: what stands then, and what is left. -/
def growL (g : List Sym) : Bs → List Int → List Int → Bs × Option (List Int)
  | s, [], b => (s, some b)
  | s, c :: a, b => if b = [] then (s, none) else
    if 0 ≤ c then (if b.head? = some c then growL g s a b.tail else (s, none))
    else match lenN g b 1 with
      | none => (s, none)
      | some k => match s (vN c) with
        | none => growL g (s.upd (vN c) (b.take k)) a (b.drop k)
        | some t => if t = b.take k then growL g s a (b.drop k) else (s, none)
theorem grow_L {g : List Sym} : ∀ (a b : List Int) (s : Bs), growF g s a b = match growL g s a b with | (u, some []) => some u | _ => none
  | [], b, s => by
    rw [growF, growL]
    cases b <;> simp
  | c :: a, b, s => by
    rw [growF, growL]
    by_cases hb : b = []
    · simp only [if_pos hb]
    · simp only [if_neg hb]
      by_cases h0 : 0 ≤ c
      · simp only [if_pos h0]
        by_cases hh : b.head? = some c
        · simp only [if_pos hh]; exact grow_L a _ s
        · simp only [if_neg hh]
      · simp only [if_neg h0]
        cases hl : lenN g b 1 with
        | none => rfl
        | some k =>
          cases hs : s (vN c) with
          | none => exact grow_L a _ _
          | some t =>
            dsimp only
            by_cases ht : t = b.take k
            · simp only [if_pos ht]; exact grow_L a _ s
            · simp only [if_neg ht]
theorem growL_len {g : List Sym} : ∀ (a b : List Int) (s u : Bs) (q : List Int), growL g s a b = (u, some q) → q.length ≤ b.length
  | [], b, s, u, q, h => by rw [growL] at h; cases h; exact Nat.le_refl _
  | c :: a, b, s, u, q, h => by
    rw [growL] at h
    split at h
    · cases h
    · split at h
      · split at h
        · have := growL_len a _ _ _ _ h; simp at this; omega
        · cases h
      · split at h
        · cases h
        · split at h
          · have := growL_len a _ _ _ _ h; simp at this; omega
          · split at h
            · have := growL_len a _ _ _ _ h; simp at this; omega
            · cases h
abbrev bM (s : Bs) : IV := .dbox 80 0 (bsD s)
theorem l_mgrow {g : List Sym} (hg : SigOk g) (z z1 z2 : Bool) (e e1 e2 : List D) {a b : List Int} (ha : a.length ≤ 1000) (hb : b.length ≤ 1000) (hz : z2 = true → b = []) (hc : ∀ c ∈ a, -24 ≤ c) (x : Bs × Nat × Nat) (hx : x.2.1 ≤ a.length ∧ x.2.2 ≤ b.length ∧ ∀ v t, x.1 v = some t → t.length ≤ 1000) :
    evP F (Go.Ab.W F) (JW F d45 [0]) d45 [0] [1,1,0,1] [(0, bM x.1), (1, iG z g e), (3, iS z2 b e2), (9, iI x.2.2), (16, iS z1 a e1), (17, iI a.length), (18, iI x.2.1)] = some (match growL g x.1 (a.drop x.2.1) (b.drop x.2.2) with | (u, some q) => .norm [(0, bM u), (1, iG z g e), (3, iS z2 b e2), (9, iI (b.length - q.length : Nat)), (16, iS z1 a e1), (17, iI a.length), (18, iI a.length)] | (u, none) => .ret [(0, bM u), (8, iB false)]) :=
  blk_fun (F := F) (d := d45) (lk := [0]) (p := [1,1,0,1,0,0]) (p0 := [1,1,0,1]) (id := 0) (by kernel_rfl) (st := fun (x : Bs × Nat × Nat) => [(0, bM x.1), (1, iG z g e), (3, iS z2 b e2), (9, iI x.2.2), (16, iS z1 a e1), (17, iI a.length), (18, iI x.2.1)]) (I := fun x => x.2.1 ≤ a.length ∧ x.2.2 ≤ b.length ∧ ∀ v t, x.1 v = some t → t.length ≤ 1000) (μ := fun x => a.length - x.2.1)
    (res := fun x => match growL g x.1 (a.drop x.2.1) (b.drop x.2.2) with | (u, some q) => .norm [(0, bM u), (1, iG z g e), (3, iS z2 b e2), (9, iI (b.length - q.length : Nat)), (16, iS z1 a e1), (17, iI a.length), (18, iI a.length)] | (u, none) => .ret [(0, bM u), (8, iB false)])
    (fun x hx => by
      obtain ⟨s, i, j⟩ := x
      obtain ⟨hx1, hx2, hx3⟩ := hx
      dsimp only at hx1 hx2 hx3
      by_cases hi : i < a.length
      rotate_left
      · have e0 : i = a.length := by omega
        subst e0
        refine .stop (.exit 0 [(0, bM s), (1, iG z g e), (3, iS z2 b e2), (9, iI j), (16, iS z1 a e1), (17, iI a.length), (18, iI a.length)]) (wpQ_way (q45_l0a _ _ (bsD s) z (syms g) e z2 (ints b) e2 j z1 (ints a) e1 a.length a.length _) (by simp)) rfl ?_
        rw [List.drop_length, growL]
        simp only [blkO, List.length_drop]
        rw [show b.length - (b.length - j) = j by omega]; rfl
      have hci := hc _ (gi_mem hi)
      have hi' : (i : Int) < a.length := by omega
      have hat := Go.Ab.ints_at hi
      have hd := gi_drop hi
      have hw1 := wr1 hi (show a.length ≤ 9223372036854775807 by omega)
      by_cases hj : j < b.length
      rotate_left
      · have hjn : (b.length : Int) ≤ j := by omega
        refine .stop (.ret [(0, bM s), (8, iB false)]) (wpQ_way (q45_l0a _ _ (bsD s) z (syms g) e z2 (ints b) e2 j z1 (ints a) e1 a.length i _) ?_) rfl ?_
        · simp [-Bool.exists_bool, -getElem?_pos, hi', hat, ints_len, hjn]
        · rw [hd, growL, if_pos (drop_ge hj)]; rfl
      have hjn : ¬ (b.length : Int) ≤ j := by omega
      have hjn' : ¬ ((j : Int) ≥ b.length) := by omega
      have hbd : b.drop j ≠ [] := by simp; omega
      have hz2 : z2 = false := by
        cases z2 with
        | false => rfl
        | true => have := hz rfl; subst this; simp at hj
      subst hz2
      by_cases h0 : 0 ≤ gi a i
      · have hbt := Go.Ab.ints_at hj
        by_cases heq : gi b j = gi a i
        · refine .go (s, i + 1, j + 1) (wpQ_way (q45_l0a _ _ (bsD s) z (syms g) e false (ints b) e2 j z1 (ints a) e1 a.length i _) ?_) ⟨by dsimp only; omega, by dsimp only; omega, hx3⟩ (by dsimp only; omega) ?_
          · simp [-Bool.exists_bool, -getElem?_pos, -Int.natCast_add, hi', hat, ints_len, hj, hjn, h0, hbt, heq, hw1, wr1 hj (by omega)]
          · dsimp only
            rw [hd, growL, if_neg hbd, if_pos h0, gi_drop hj]
            simp [heq]
        · refine .stop (.ret [(0, bM s), (8, iB false)]) (wpQ_way (q45_l0a _ _ (bsD s) z (syms g) e false (ints b) e2 j z1 (ints a) e1 a.length i _) ?_) rfl ?_
          · simp [-Bool.exists_bool, -getElem?_pos, -Int.natCast_add, hi', hat, ints_len, hj, hjn, h0, hbt, heq]
          · rw [hd, growL, if_neg hbd, if_pos h0, gi_drop hj]
            simp [heq, blkO]
      · have hsk := w_skip hg z false e e2 (r := b) (by omega) j
        cases hl : lenN g (b.drop j) 1 with
        | none =>
          rw [skB, skV, hl] at hsk
          refine .stop (.ret [(0, bM s), (8, iB false)]) (wpQ_way (q45_l0a _ _ (bsD s) z (syms g) e false (ints b) e2 j z1 (ints a) e1 a.length i _) ?_) rfl ?_
          · simp [-Bool.exists_bool, -getElem?_pos, -Int.natCast_add, hi', hat, ints_len, hj, hjn, h0, hsk]
          · rw [hd, growL, if_neg hbd, if_neg h0, hl]; rfl
        | some k =>
          rw [skB, skV, hl] at hsk
          have hle := lenN_le hl
          simp only [List.length_drop] at hle
          have hn := w_number (gi a i)
          have hv1 : IntKind.wrap .i64 (-1 - gi a i) = (vN (gi a i) : Int) := by rw [wr _ (by omega) (by omega)]; unfold vN; omega
          rw [hv1] at hn
          have hv24 : vN (gi a i) < 24 := by unfold vN; omega
          obtain ⟨v, hv⟩ : ∃ v, v = vN (gi a i) := ⟨_, rfl⟩
          rw [← hv] at hn hv24
          have hvi : (v : Int) < 24 := by omega
          have hba := bsD_at s hv24
          have hpc : List.drop j (tkX (j + k) (ints b) e2) = ints ((b.drop j).take k) := by
            rw [tkX_ints (by omega), ints_drop, List.drop_take, Nat.add_sub_cancel_left]
          have hpc' : List.drop j (match e2 with | [] => List.take (j + k) (ints b) | x => List.take (j + k) (ints b ++ e2)) = ints ((b.drop j).take k) := hpc
          have hk1 : (j : Int) ≤ ((j + k : Nat) : Int) := by omega
          have hk2 : ((j + k : Nat) : Int) ≤ ((b.length + e2.length : Nat) : Int) := by omega
          have hk3 : ((j + k : Nat) : Int) ≤ (b.length : Int) + (e2.length : Int) := by omega
          have htl : Len ((b.drop j).take k) := by unfold Len; simp; omega
          have hvle : v + 1 ≤ 24 := hv24
          have hv23 : (v : Int) ≤ 23 := by omega
          cases hs : s v with
          | none =>
            rw [hs] at hba
            have hset := bsD_set s hv24 ((b.drop j).take k)
            have hba2 := bsD_at (s.upd v ((b.drop j).take k)) hv24
            have hu : (s.upd v ((b.drop j).take k)) v = some ((b.drop j).take k) := by simp [Bs.upd]
            rw [hu] at hba2
            have heq := w_equal htl ((b.drop j).take k) false false [] []
            rw [decide_eq_true rfl] at heq
            refine .go (s.upd v ((b.drop j).take k), i + 1, j + k) (wpQ_way (q45_l0a _ _ (bsD s) z (syms g) e false (ints b) e2 j z1 (ints a) e1 a.length i _) ?_) ⟨by dsimp only; omega, by dsimp only; omega, fun w t ht => ?_⟩ (by dsimp only; omega) ?_
            · simp [-Bool.exists_bool, -getElem?_pos, -Int.natCast_add, -List.length_take, -List.length_drop, hi', hat, ints_len, hj, hjn, h0, hsk, hn, hvi, hv23, hba, hpc, hpc', hk1, hk2, hk3, bsD_len, hvle, D.cells, setR, hset, hba2, heq, hw1]
            · simp only [Bs.upd] at ht
              split at ht
              · cases ht; simp; omega
              · exact hx3 w t ht
            · dsimp only
              rw [hd, growL, if_neg hbd, if_neg h0, hl]
              simp only [← hv, hs, List.drop_drop]
          | some t =>
            rw [hs] at hba
            have htl2 : Len t := by have := hx3 v t hs; unfold Len; omega
            have heq := w_equal htl2 ((b.drop j).take k) false false [] []
            by_cases ht : t = (b.drop j).take k
            · rw [decide_eq_true ht] at heq
              refine .go (s, i + 1, j + k) (wpQ_way (q45_l0a _ _ (bsD s) z (syms g) e false (ints b) e2 j z1 (ints a) e1 a.length i _) ?_) ⟨by dsimp only; omega, by dsimp only; omega, hx3⟩ (by dsimp only; omega) ?_
              · simp [-Bool.exists_bool, -getElem?_pos, -Int.natCast_add, -List.length_take, -List.length_drop, hi', hat, ints_len, hj, hjn, h0, hsk, hn, hvi, hv23, hba, hpc, hpc', hk1, hk2, hk3, heq, hw1]
              · dsimp only
                rw [hd, growL, if_neg hbd, if_neg h0, hl]
                simp only [← hv, hs, List.drop_drop]
                rw [if_pos ht]
            · rw [decide_eq_false ht] at heq
              refine .stop (.ret [(0, bM s), (8, iB false)]) (wpQ_way (q45_l0a _ _ (bsD s) z (syms g) e false (ints b) e2 j z1 (ints a) e1 a.length i _) ?_) rfl ?_
              · simp [-Bool.exists_bool, -getElem?_pos, -Int.natCast_add, -List.length_take, -List.length_drop, hi', hat, ints_len, hj, hjn, h0, hsk, hn, hvi, hv23, hba, hpc, hpc', hk1, hk2, hk3, heq]
              · rw [hd, growL, if_neg hbd, if_neg h0, hl]
                simp only [← hv, hs]
                rw [if_neg ht]; rfl) x hx
theorem w_mgrow {g : List Sym} (hg : SigOk g) (z z1 z2 : Bool) (e e1 e2 : List D) {a b : List Int} (ha : a.length ≤ 1000) (hb : b.length ≤ 1000) (hz : z2 = true → b = []) (hc : ∀ c ∈ a, -24 ≤ c) {s : Bs} (hs : ∀ v t, s v = some t → t.length ≤ 1000) :
    C 45 [bM s, iG z g e, iS z1 a e1, iS z2 b e2] = some (iB (growF g s a b).isSome, [bM (growL g s a b).1, iG z g e, iS z1 a e1, iS z2 b e2]) := by
  refine wfn (lk := [0]) rfl rfl (fnW_way (q45 _ _ (bsD s) z (syms g) e z1 (ints a) e1 z2 (ints b) e2 _) ?_)
  have h1 := l_mgrow hg z z1 z2 e e1 e2 ha hb hz hc (s, 0, 0) ⟨Nat.zero_le _, Nat.zero_le _, hs⟩
  dsimp only at h1
  rw [List.drop_zero, List.drop_zero] at h1
  rw [ints_len, grow_L]
  have hql := growL_len (g := g) a b s
  rcases hr : growL g s a b with ⟨u, q⟩
  rw [hr] at h1
  cases q with
  | none => exact .inl ⟨_, _, h1, rfl⟩
  | some q =>
    have hq := hql u q hr
    refine .inr ⟨_, _, _, _, _, _, _, _, _, _, _, _, _, h1, ?_⟩
    rw [ints_len]
    cases q with
    | nil => exact condW_t (by simp) rfl
    | cons x q =>
      have : ¬ ((b.length - (x :: q).length : Nat) : Int) = b.length := by simp at hq ⊢; omega
      exact condW_f (by simpa using this) rfl
end Go.Proofs.YtmldmhbdeejcnaaDoor.Ab

/- Which term is more: where it is put in, with terms put in, through a third one. Plain lists; no condition. -/
set_option linter.unusedVariables false
set_option linter.unusedSimpArgs false
namespace Go.Qu
open Go Go.Ab

/-- How often a code stands. -/
def occ (a : List Int) (v : Nat) : Nat := a.count (-1 - (v : Int))
def covB (a b : List Int) : Bool := (List.range 24).all fun v => decide (occ b v ≤ occ a v)
/-- The terms of codes, as far as there are any. -/
def pcs (g : List Sym) (r : List Int) : List (List Int) :=
  if hr : r = [] then [] else match h : lenN g r 1 with
    | none => []
    | some k => r.take k :: pcs g (r.drop k)
termination_by r.length
decreasing_by
  have := lenN_le h
  have : r.length ≠ 0 := fun e => hr (List.length_eq_zero_iff.1 e)
  simp; omega
theorem pcs_nil (g : List Sym) : pcs g [] = [] := by rw [pcs]; simp
theorem pcs_none {g : List Sym} {r : List Int} (hr : r ≠ []) (h : lenN g r 1 = none) : pcs g r = [] := by
  rw [pcs]; rw [dif_neg hr]; split
  · rfl
  · rename_i k hk; rw [h] at hk; cases hk
theorem pcs_some {g : List Sym} {r : List Int} {k : Nat} (hr : r ≠ []) (h : lenN g r 1 = some k) : pcs g r = r.take k :: pcs g (r.drop k) := by
  rw [pcs]; rw [dif_neg hr]; split
  · rename_i hk; rw [h] at hk; cases hk
  · rename_i k' hk; rw [h] at hk; cases hk; rfl
theorem pcs_len {g : List Sym} : ∀ (n : Nat) {r : List Int}, r.length ≤ n → ∀ x ∈ pcs g r, x ≠ [] ∧ x.length ≤ r.length
  | n, r, hn, x, hx => by
    by_cases hr : r = []
    · subst hr; rw [pcs_nil] at hx; cases hx
    · cases h : lenN g r 1 with
      | none => rw [pcs_none hr h] at hx; cases hx
      | some k =>
        rw [pcs_some hr h] at hx
        have h4 := lenN_le h
        rcases List.mem_cons.1 hx with rfl | hx
        · refine ⟨fun e => ?_, by simp [Nat.min_le_right]⟩
          have := congrArg List.length e
          simp at this
          rcases this with h5 | h5
          · omega
          · exact hr h5
        · cases n with
          | zero => exact absurd (List.length_eq_zero_iff.1 (by omega)) hr
          | succ n =>
            have := pcs_len n (r := r.drop k) (by simp; omega) x hx
            exact ⟨this.1, Nat.le_trans this.2 (by simp)⟩
def unlF : List (List Int) → List (List Int) → Option (List Int × List Int)
  | x :: xs, y :: ys => if x = y then unlF xs ys else some (x, y)
  | _, _ => none
theorem unl_mem : ∀ {xs ys : List (List Int)} {x y : List Int}, unlF xs ys = some (x, y) → x ∈ xs ∧ y ∈ ys
  | [], ys, x, y, h => by simp [unlF] at h
  | a :: xs, [], x, y, h => by simp [unlF] at h
  | a :: xs, b :: ys, x, y, h => by
    rw [unlF] at h
    split at h
    · have := unl_mem h
      exact ⟨List.mem_cons_of_mem _ this.1, List.mem_cons_of_mem _ this.2⟩
    · cases h; simp
/-- Is one more than the other? -/
def moreF (g : List Sym) : Nat → List Int → List Int → Bool
  | 0, _, _ => false
  | n + 1, a, b => if covB a b = false then false else if sumW g a ≠ sumW g b then decide (sumW g b < sumW g a) else
    if gi a 0 ≠ gi b 0 then decide (gi b 0 < gi a 0) else match unlF (pcs g a.tail) (pcs g b.tail) with
      | none => false
      | some (x, y) => moreF g n x y
/-- The same, said once. -/
inductive More (g : List Sym) : List Int → List Int → Prop
  | sum {a b : List Int} : covB a b = true → sumW g b < sumW g a → More g a b
  | head {a b : List Int} : covB a b = true → sumW g a = sumW g b → gi b 0 < gi a 0 → More g a b
  | arg {a b x y : List Int} : covB a b = true → sumW g a = sumW g b → gi a 0 = gi b 0 → unlF (pcs g a.tail) (pcs g b.tail) = some (x, y) → More g x y → More g a b
theorem more_of {g : List Sym} : ∀ {n : Nat} {a b : List Int}, moreF g n a b = true → More g a b
  | 0, a, b, h => by simp [moreF] at h
  | n + 1, a, b, h => by
    rw [moreF] at h
    split at h
    · cases h
    · rename_i hc
      have hc : covB a b = true := by simpa using hc
      split at h
      · exact .sum hc (by simpa using h)
      · rename_i hs
        have hs : sumW g a = sumW g b := by simpa using hs
        split at h
        · exact .head hc hs (by simpa using h)
        · rename_i hh
          have hh : gi a 0 = gi b 0 := by simpa using hh
          split at h
          · cases h
          · rename_i x y hu
            exact .arg hc hs hh hu (more_of h)
theorem more_to {g : List Sym} {a b : List Int} (h : More g a b) : ∀ {n : Nat}, a.length ≤ n → a ≠ [] → moreF g n a b = true := by
  induction h with
  | sum hc hs =>
    intro n hn ha
    cases n with
    | zero => exact absurd (List.length_eq_zero_iff.1 (by omega)) ha
    | succ n =>
      rw [moreF, if_neg (by simp [hc]), if_pos (by omega)]; simpa using hs
  | head hc hs hh =>
    intro n hn ha
    cases n with
    | zero => exact absurd (List.length_eq_zero_iff.1 (by omega)) ha
    | succ n =>
      rw [moreF, if_neg (by simp [hc]), if_neg (by simp [hs]), if_pos (by omega)]; simpa using hh
  | @arg a b x y hc hs hh hu hm ih =>
    intro n hn ha
    cases n with
    | zero => exact absurd (List.length_eq_zero_iff.1 (by omega)) ha
    | succ n =>
      have h1 := pcs_len (g := g) _ (Nat.le_refl _) x (unl_mem hu).1
      rw [moreF, if_neg (by simp [hc]), if_neg (by simp [hs]), if_neg (by simp [hh]), hu]
      refine ih ?_ h1.1
      have : a.length ≠ 0 := fun e => ha (List.length_eq_zero_iff.1 e)
      have h2 := h1.2
      simp at h2
      omega
theorem more_cov {g : List Sym} {a b : List Int} (h : More g a b) : covB a b = true ∧ sumW g b ≤ sumW g a := by
  cases h with
  | sum h1 h2 => exact ⟨h1, by omega⟩
  | head h1 h2 _ => exact ⟨h1, by omega⟩
  | arg h1 h2 _ _ _ => exact ⟨h1, by omega⟩
theorem cov_iff {a b : List Int} : covB a b = true ↔ ∀ v, v < 24 → occ b v ≤ occ a v := by
  unfold covB
  rw [List.all_eq_true]
  exact ⟨fun h v hv => by simpa using h v (List.mem_range.2 hv), fun h v hv => by simpa using h v (List.mem_range.1 hv)⟩
/-! ### With terms put in -/
theorem cov_count {a b : List Int} (h : covB a b = true) (hb : ∀ c ∈ b, -24 ≤ c) : ∀ c, c < 0 → b.count c ≤ a.count c := by
  intro c hc
  by_cases h24 : -24 ≤ c
  · have := cov_iff.1 h (-1 - c).toNat (by omega)
    unfold occ at this
    have e : (-1 - (((-1 - c).toNat : Nat) : Int)) = c := by omega
    rw [e] at this
    exact this
  · have : ¬ c ∈ b := fun hm => h24 (hb c hm)
    rw [List.count_eq_zero.2 this]; omega
/-- A row of one term. -/
abbrev One (g : List Sym) (t : List Int) : Prop := lenN g t 1 = some t.length
theorem one_cons {g : List Sym} {t : List Int} (h : One g t) : ∃ c r a, t = c :: r ∧ arOf g c = some a ∧ lenN g r a = some r.length := by
  cases t with
  | nil => simp [One, lenN] at h
  | cons c r =>
    obtain ⟨a, m, h1, h2, h3⟩ := lenN_some (n := 0) h
    rw [Nat.zero_add] at h2
    refine ⟨c, r, a, rfl, h1, ?_⟩
    simp only [List.length_cons] at h3
    rw [h2]; congr 1; omega
theorem one_24 {g : List Sym} {t : List Int} (h : One g t) : ∀ c ∈ t, -24 ≤ c := by
  have h1 := parts_one h
  rw [List.take_length] at h1
  exact fun c hc => (arOf_lt (parts_codes _ t (Nat.le_refl _) h1 c hc)).1
/-- Rows of so many terms: pieces of one. -/
theorem pcs_row {g : List Sym} : ∀ {n : Nat} {r : List Int}, lenN g r n = some r.length → (∀ x ∈ pcs g r, One g x) ∧ (pcs g r).flatten = r ∧ (pcs g r).length = n
  | 0, r, h => by
    have : r = [] := by cases r <;> simp [lenN] at h <;> first | rfl | skip
    subst this
    simp [pcs_nil]
  | n + 1, r, h => by
    obtain ⟨k1, k2, h1, h2, h3⟩ := lenN_first h
    have hk := lenN_le h1
    have hr : r ≠ [] := fun e => by subst e; simp at hk; omega
    have ih := pcs_row (n := n) (r := r.drop k1) (by rw [h2]; simp; omega)
    rw [pcs_some hr h1]
    have ht : One g (r.take k1) := by
      have := lenN_take h1
      unfold One; rw [this]; simp; omega
    refine ⟨fun x hx => ?_, ?_, by simp [ih.2.2]⟩
    · rcases List.mem_cons.1 hx with rfl | hx
      · exact ht
      · exact ih.1 x hx
    · rw [List.flatten_cons, ih.2.1, List.take_append_drop]
theorem pcs_flat {g : List Sym} : ∀ {ts : List (List Int)}, (∀ x ∈ ts, One g x) → pcs g ts.flatten = ts
  | [], _ => pcs_nil g
  | t :: ts, h => by
    have h1 := h t (by simp)
    have h2 := lenN_le h1
    have h3 := lenN_app ts.flatten h1
    have hne : t ++ ts.flatten ≠ [] := fun e => by
      have := congrArg List.length e
      simp at this
      have : t.length = 0 := by rw [this.1]; rfl
      omega
    rw [List.flatten_cons, pcs_some hne h3, List.take_left, List.drop_left, pcs_flat (fun x hx => h x (List.mem_cons_of_mem _ hx))]
/-! ### Within a term -/
/-- A term put in a term's place. -/
theorem repl_lenN {g : List Sym} {s t : List Int} (hs : One g s) (ht : One g t) : ∀ {p q : List Int} {n k : Nat}, lenN g (p ++ (s ++ q)) n = some k → p.length < k → ∃ m, lenN g q m = some (k - p.length - s.length) ∧ p.length + s.length ≤ k ∧ lenN g (p ++ (t ++ q)) n = some (k - s.length + t.length)
  | p, q, 0, k, h, hk => by
    have : k = 0 := by
      cases hh : p ++ (s ++ q) <;> rw [hh] at h <;> simp [lenN] at h <;> omega
    omega
  | [], q, n + 1, k, h, hk => by
    rw [List.nil_append] at h ⊢
    have h1 := lenN_split (r := s ++ q) (n := 1) n (lenN_app q hs)
    have h2 := lenN_split (r := t ++ q) (n := 1) n (lenN_app q ht)
    rw [Nat.add_comm 1 n, h, List.drop_left] at h1
    rw [Nat.add_comm 1 n, List.drop_left] at h2
    cases hq : lenN g q n with
    | none => rw [hq] at h1; cases h1
    | some m =>
      rw [hq] at h1 h2
      simp at h1 h2
      subst h1
      refine ⟨n, by rw [hq]; simp, by simp, ?_⟩
      rw [h2]; simp; omega
  | c :: p, q, n + 1, k, h, hk => by
    rw [List.cons_append] at h ⊢
    obtain ⟨a, m, h1, h2, rfl⟩ := lenN_some h
    simp at hk
    have hs1 := lenN_le hs
    obtain ⟨m', h3, h4, h5⟩ := repl_lenN hs ht h2 hk
    refine ⟨m', by rw [h3]; simp <;> omega, by simp <;> omega, ?_⟩
    rw [lenN_cons h1, h5]
    simp; omega
end Go.Qu

/- Binds: what they make of rows; two lists of binds as one. Plain lists, no program in sight; no condition. -/
set_option linter.unusedVariables false
set_option linter.unusedSimpArgs false
namespace Go.Qu
open Go Go.Ab
structure Bd where
  v : Int
  r : Row
def Bd.d (b : Bd) : D := .agg [.int .i64 b.v, .sl 1 b.r.z (ints b.r.l) b.r.e]
def bds (l : List Bd) : List D := l.map Bd.d
abbrev iBd (z : Bool) (l : List Bd) (e : List D) : IV := .d (.sl 2 z (bds l) e)
theorem bds_len (l : List Bd) : (bds l).length = l.length := by simp [bds]
theorem bds_at {l : List Bd} {i : Nat} {s : Bd} (h : l[i]? = some s) : (bds l)[i]? = some (.agg [.int .i64 s.v, .sl 1 s.r.z (ints s.r.l) s.r.e]) := by simp [bds, h, Bd.d]
/-! ### What may be -/
def oneB (g : List Sym) (t : List Int) : Bool := rowB g t && decide (termsN g t = 1)
theorem one_lenN {g : List Sym} {t : List Int} (h : oneB g t = true) : sigB g = true ∧ t.length ≤ 48 ∧ lenN g t 1 = some t.length := by
  simp only [oneB, Bool.and_eq_true, decide_eq_true_eq] at h
  obtain ⟨hg, hr, ts, hts, _⟩ := rowB_parts h.1
  have h2 := termsN_of hg hr hts
  have h3 := parts_all _ (Nat.le_refl _) hts
  rw [← h2, h.2] at h3
  exact ⟨hg, hr, h3⟩
theorem one_of {g : List Sym} {t : List Int} (hg : sigB g = true) (hr : t.length ≤ 48) (h : lenN g t 1 = some t.length) : oneB g t = true := by
  have h1 := parts_one h
  rw [List.take_length] at h1
  simp [oneB, rowB_of hg hr h1, termsN_of hg hr h1]
/-! ### What stands for a variable -/
def findB : List Bd → Int → Row
  | [], _ => ⟨true, [], []⟩
  | b :: s, v => if b.v = v then b.r else findB s v
theorem findB_some {s : List Bd} {v : Int} {j : Nat} {b : Bd} (hb : s[j]? = some b) (hv : b.v = v) (hk : ∀ k, k < j → ∀ c, s[k]? = some c → c.v ≠ v) : findB s v = b.r := by
  induction s generalizing j with
  | nil => simp at hb
  | cons a s ih =>
    cases j with
    | zero => simp at hb; subst hb; simp [findB, hv]
    | succ j =>
      have h0 := hk 0 (by omega) a (by simp)
      rw [findB, if_neg h0]
      exact ih (j := j) (by simpa using hb) (fun k hk2 c hc => hk (k + 1) (by omega) c (by simpa using hc))
theorem findB_none {s : List Bd} {v : Int} (hk : ∀ k, k < s.length → ∀ c, s[k]? = some c → c.v ≠ v) : findB s v = ⟨true, [], []⟩ := by
  induction s with
  | nil => rfl
  | cons a s ih =>
    have h0 := hk 0 (by simp) a (by simp)
    rw [findB, if_neg h0]
    exact ih (fun k hk2 c hc => hk (k + 1) (by simp; omega) c (by simpa using hc))
def onC (s : List Bd) (c : Int) : List Int := if 0 ≤ c then [c] else if (findB s (-1 - c)).z = true then [c] else (findB s (-1 - c)).l
def onB (s : List Bd) : List Int → List Int
  | [] => []
  | c :: r => onC s c ++ onB s r
/-! ### One after the other -/
end Go.Qu

/- A row that is rewritten: what it becomes. Plain lists; no condition. -/
set_option linter.unusedVariables false
set_option linter.unusedSimpArgs false
namespace Go.Qu
open Go Go.Ab
/-- What stands for variables, as a list, without those that stay. -/
def listF (u : Bs) : Nat → Nat → List Bd
  | 0, _ => []
  | k + 1, v => (match u v with | none => [] | some t => if t = [-1 - (v : Int)] then [] else [⟨v, ⟨false, t, []⟩⟩]) ++ listF u k (v + 1)
theorem find_listF (u : Bs) : ∀ (k v w : Nat), findB (listF u k v) (w : Int) = if v ≤ w ∧ w < v + k then (match u w with | none => ⟨true, [], []⟩ | some t => if t = [-1 - (w : Int)] then ⟨true, [], []⟩ else ⟨false, t, []⟩) else ⟨true, [], []⟩
  | 0, v, w => by
    rw [if_neg (by omega)]; rfl
  | k + 1, v, w => by
    have ih := find_listF u k (v + 1) w
    rw [listF]
    by_cases hv : v = w
    · subst hv
      rw [if_pos (by omega)]
      rw [if_neg (by omega)] at ih
      cases hu : u v with
      | none => simpa [hu] using ih
      | some t =>
        dsimp only
        by_cases ht : t = [-1 - (v : Int)]
        · rw [if_pos ht, if_pos ht]; simpa using ih
        · rw [if_neg ht, if_neg ht]; simp [findB]
    · have h1 : (v ≤ w ∧ w < v + (k + 1)) ↔ (v + 1 ≤ w ∧ w < v + 1 + k) := by omega
      simp only [h1]
      rw [← ih]
      cases hu : u v with
      | none => rfl
      | some t =>
        dsimp only
        by_cases ht : t = [-1 - (v : Int)]
        · rw [if_pos ht]; rfl
        · rw [if_neg ht]
          have hne : ¬ (v : Int) = (w : Int) := by omega
          simp [findB, hne]
theorem on_list {u : Bs} : ∀ {r : List Int}, (∀ c ∈ r, -24 ≤ c) → (∀ c ∈ r, c < 0 → (u (vN c)).isSome = true) → onB (listF u 24 0) r = app (defS u) r
  | [], _, _ => rfl
  | c :: r, h, h' => by
    have ih := on_list (u := u) (r := r) (fun x hx => h x (by simp [hx])) (fun x hx => h' x (by simp [hx]))
    rw [onB, ih, app_cons]
    congr 1
    unfold onC appC
    by_cases hc : 0 ≤ c
    · rw [if_pos hc, if_pos hc]
    · rw [if_neg hc, if_neg hc]
      have h24 := h c (by simp)
      have hs := h' c (by simp) (by omega)
      have e : (-1 - c) = ((vN c : Nat) : Int) := by unfold vN; omega
      have hlt : 0 ≤ vN c ∧ vN c < 0 + 24 := by unfold vN; omega
      have hf := find_listF u 24 0 (vN c)
      rw [if_pos hlt] at hf
      rw [e, hf]
      cases hu : u (vN c) with
      | none => rw [hu] at hs; cases hs
      | some t =>
        have e2 : (-1 - ((vN c : Nat) : Int)) = c := by unfold vN; omega
        dsimp only
        rw [e2]
        by_cases ht : t = [c]
        · simp [defS, hu, ht]
        · simp [defS, hu, ht]
/-- What the row becomes where the rewrite's left side stands at a place. -/
def hitF (g : List Sym) (L R out : List Int) (i : Nat) : Option (List Int) := match lenN g (out.drop i) 1 with
  | none => none
  | some k => match growF g (fun _ => none) L ((out.drop i).take k) with
    | none => none
    | some u => some (out.take i ++ (onB (listF u 24 0) R ++ out.drop (i + k)))
/-- The row, how often, and at which place: what it becomes. -/
def rwX (g : List Sym) (L R : List Int) (x : List Int × Nat × Nat) : Option (List Int × Nat) :=
  if h : x.2.2 < x.1.length ∧ x.1.length ≤ 48 ∧ x.2.1 ≤ 100 then match hitF g L R x.1 x.2.2 with
    | none => rwX g L R (x.1, x.2.1, x.2.2 + 1)
    | some o => if ht : x.2.1 = 100 then none else if hl : 48 < o.length then none else rwX g L R (o, x.2.1 + 1, 0)
  else some (x.1, x.2.1)
termination_by (100 - x.2.1) * 50 + (x.1.length - x.2.2)
decreasing_by
  · omega
  · omega
theorem rwX_end {g : List Sym} {L R out : List Int} {t i : Nat} (h : ¬ i < out.length) : rwX g L R (out, t, i) = some (out, t) := by
  rw [rwX, dif_neg (fun e => h e.1)]
theorem rwX_no {g : List Sym} {L R out : List Int} {t i : Nat} (h : i < out.length) (h1 : out.length ≤ 48) (h2 : t ≤ 100) (hh : hitF g L R out i = none) : rwX g L R (out, t, i) = rwX g L R (out, t, i + 1) := by
  rw [rwX, dif_pos ⟨h, h1, h2⟩]
  dsimp only
  rw [hh]
theorem rwX_yes {g : List Sym} {L R out o : List Int} {t i : Nat} (h : i < out.length) (h1 : out.length ≤ 48) (h2 : t ≤ 100) (hh : hitF g L R out i = some o) : rwX g L R (out, t, i) = if t = 100 then none else if 48 < o.length then none else rwX g L R (o, t + 1, 0) := by
  rw [rwX, dif_pos ⟨h, h1, h2⟩]
  dsimp only
  rw [hh]
  dsimp only
  split
  · rfl
  · split <;> rfl
theorem list_u {g : List Sym} {L t : List Int} {u : Bs} (h : growF g (fun _ => none) L t = some u) : (∀ c ∈ L, c < 0 → (u (vN c)).isSome = true) ∧ (defS u).Ok g ∧ app (defS u) L = t := by
  obtain ⟨h1, h2, h3, h4⟩ := grow_sound h
  refine ⟨h2, fun v => ?_, h4 _ fun v t e => by unfold defS; rw [e]⟩
  unfold defS
  split
  · rename_i t e
    rcases h3 v t e with h5 | h5
    · cases h5
    · exact h5
  · split
    · exact lenN_one (by omega) (by omega)
    · exact lenN_one (by omega) (by omega)
theorem hit_row {g : List Sym} (hg : SigOk g) {L R : List Int} (hL : One g L) (hR : One g R) (hsub : ∀ c ∈ R, c < 0 → c ∈ L) {out o : List Int} {i : Nat} (h : hitF g L R out i = some o) :
    ∃ p s t q, out = p ++ (s ++ q) ∧ o = p ++ (t ++ q) ∧ One g s ∧ One g t ∧ p.length = i := by
  unfold hitF at h
  split at h
  · cases h
  · rename_i k hk
    split at h
    · cases h
    · rename_i u hu
      simp only [Option.some.injEq] at h
      obtain ⟨h1, h2, h3⟩ := list_u hu
      have hle := lenN_le hk
      simp only [List.length_drop] at hle
      rw [on_list (one_24 hR) (fun c hc h0 => h1 c (hsub c hc h0) h0)] at h
      refine ⟨out.take i, (out.drop i).take k, app (defS u) R, out.drop (i + k), ?_, h.symm, ?_, app_lenN h2 hR, by simp; omega⟩
      · rw [← List.drop_drop, List.take_append_drop, List.take_append_drop]
      · have := lenN_take hk
        unfold One; rw [this]; simp; omega
theorem more_sub {g : List Sym} {L R : List Int} (hR : One g R) (hm : More g L R) : ∀ c ∈ R, c < 0 → c ∈ L := fun c hc h0 =>
  List.count_pos_iff.1 (Nat.lt_of_lt_of_le (List.count_pos_iff.2 hc) (cov_count (more_cov hm).1 (one_24 hR) c h0))
theorem grow_len {g : List Sym} : ∀ {a b : List Int} {s u : Bs}, growF g s a b = some u → ∀ v t, u v = some t → s v = some t ∨ t.length ≤ b.length
  | [], b, s, u, h => by
    rw [growF] at h
    split at h
    · cases h; exact fun v t e => .inl e
    · cases h
  | c :: a, b, s, u, h => by
    rw [growF] at h
    split at h
    · cases h
    split at h
    · split at h
      · intro v t e
        rcases grow_len h v t e with h1 | h1
        · exact .inl h1
        · exact .inr (Nat.le_trans h1 (by simp))
      · cases h
    · split at h
      · cases h
      · rename_i k hk
        split at h
        · intro v t e
          rcases grow_len h v t e with h1 | h1
          · unfold Bs.upd at h1
            split at h1
            · cases h1; exact .inr (by simp [Nat.min_le_right])
            · exact .inl h1
          · exact .inr (Nat.le_trans h1 (by simp))
        · split at h
          · intro v t e
            rcases grow_len h v t e with h1 | h1
            · exact .inl h1
            · exact .inr (Nat.le_trans h1 (by simp))
          · cases h
theorem list_le {u : Bs} {n : Nat} (hu : ∀ v t, u v = some t → t.length ≤ n) (v : Int) : (findB (listF u 24 0) v).l.length ≤ n := by
  have key : ∀ (k j : Nat), (findB (listF u k j) v).l.length ≤ n := by
    intro k
    induction k with
    | zero => intro j; simp [listF, findB]
    | succ k ih =>
      intro j
      rw [listF]
      cases hj : u j with
      | none => exact ih (j + 1)
      | some t =>
        dsimp only
        split
        · exact ih (j + 1)
        · rw [List.singleton_append, findB]
          split
          · exact hu j t hj
          · exact ih (j + 1)
  exact key 24 0
theorem listF_len (u : Bs) : ∀ (k j : Nat), (listF u k j).length ≤ k
  | 0, j => by simp [listF]
  | k + 1, j => by
    have := listF_len u k (j + 1)
    rw [listF]
    cases u j with
    | none => simp; omega
    | some t => dsimp only; split <;> simp <;> omega
end Go.Qu

/- Which term is more: what the program's functions hand back. For every input; no condition. -/
set_option linter.unusedVariables false
set_option linter.unusedSimpArgs false
set_option maxRecDepth 100000
namespace Go.Proofs.YtmldmhbdeejcnaaDoor.Ab
open Go Go.Ab Go.Qu Go.Proofs
attribute [local simp] and_assoc
/-! ### How often each variable stands -/
def cnD (a : List Int) : List D := (List.range 24).map fun v => .int .i64 (occ a v)
theorem cnD_len (a : List Int) : (cnD a).length = 24 := by simp [cnD]
theorem cnD_at (a : List Int) {v : Nat} (hv : v < 24) : (cnD a)[v]? = some (.int .i64 (occ a v)) := by simp [cnD, hv]
theorem cnD_width (a : List Int) : D.width (.agg (cnD a)) = 24 := by
  rw [D.width, width_one _ (fun x hx => ?_), cnD_len]
  simp only [cnD, List.mem_map] at hx
  obtain ⟨v, _, rfl⟩ := hx
  simp [D.width]
theorem occ_app (a : List Int) (c : Int) (w : Nat) : occ (a ++ [c]) w = occ a w + if c = -1 - (w : Int) then 1 else 0 := by
  unfold occ
  rw [List.count_append, List.count_singleton]
  by_cases h : c = -1 - (w : Int)
  · simp [h]
  · simp [h]
theorem cnD_go (a : List Int) {c : Int} (h0 : c < 0) (h24 : -24 ≤ c) : (cnD a).set (vN c) (.int .i64 ((occ a (vN c) : Int) + 1)) = cnD (a ++ [c]) := by
  refine List.ext_getElem (by simp [cnD]) (fun i h1 h2 => ?_)
  have hi : i < 24 := by simpa [cnD] using h1
  rw [List.getElem_set]
  by_cases hvi : vN c = i
  · subst hvi
    have e : c = -1 - ((vN c : Nat) : Int) := by unfold vN; omega
    simp only [if_true, cnD, List.getElem_map, List.getElem_range, occ_app]
    rw [if_pos e]; simp
  · rw [if_neg hvi]
    have e : ¬ c = -1 - (i : Int) := fun e => hvi (by unfold vN; omega)
    simp only [cnD, List.getElem_map, List.getElem_range, occ_app]
    rw [if_neg e]; simp
theorem cnD_stay (a : List Int) {c : Int} (h0 : 0 ≤ c) : cnD (a ++ [c]) = cnD a := by
  unfold cnD
  refine List.map_congr_left fun v _ => ?_
  rw [occ_app, if_neg (by omega)]; simp
theorem occ_le (a : List Int) (v : Nat) : occ a v ≤ a.length := List.count_le_length
theorem l_often {a : List Int} (ha : Len a) (hc : ∀ c ∈ a, -24 ≤ c) (z : Bool) (e : List D) (i : Nat) (hi : i ≤ a.length) :
    evP F (Go.Ab.W F) (JW F d83 []) d83 [] [1,0,1] [(2, .dbox 110 0 (cnD (a.take i))), (5, iS z a e), (6, iI a.length), (7, iI i)] = some (.norm [(2, .dbox 110 0 (cnD a)), (5, iS z a e), (6, iI a.length), (7, iI a.length)]) :=
  blk_fun (F := F) (d := d83) (lk := []) (p := [1,0,1,0,0]) (p0 := [1,0,1]) (id := 0) (by kernel_rfl) (st := fun (i : Nat) => [(2, .dbox 110 0 (cnD (a.take i))), (5, iS z a e), (6, iI a.length), (7, iI i)]) (I := fun i => i ≤ a.length) (μ := fun i => a.length - i)
    (res := fun _ => .norm [(2, .dbox 110 0 (cnD a)), (5, iS z a e), (6, iI a.length), (7, iI a.length)])
    (fun i hx => by
      by_cases hi : i < a.length
      rotate_left
      · have e0 : i = a.length := by omega
        subst e0
        refine .stop (.exit 0 [(2, .dbox 110 0 (cnD (a.take a.length))), (5, iS z a e), (6, iI a.length), (7, iI a.length)]) (wpQ_way (q83_l0b _ _ (cnD (a.take a.length)) z (ints a) e a.length a.length _) (by simp)) rfl ?_
        rw [List.take_length]; rfl
      have hci := hc _ (gi_mem hi)
      have hi' : (i : Int) < a.length := by omega
      have hat := Go.Ab.ints_at hi
      have hlt := ha.lt
      have hw1 := wr1 hi (show a.length ≤ 9223372036854775807 by omega)
      have ht : a.take (i + 1) = a.take i ++ [gi a i] := by
        rw [List.take_add_one, gi_at hi]; rfl
      by_cases h0 : 0 ≤ gi a i
      · refine .go (i + 1) (wpQ_way (q83_l0b _ _ (cnD (a.take i)) z (ints a) e a.length i _) ?_) hi (by omega) rfl
        have hneg : ¬ gi a i < 0 := by omega
        rw [ht, cnD_stay _ h0]
        simp [-Bool.exists_bool, -getElem?_pos, -Int.natCast_add, hi', hat, hneg, hw1]
      · refine .go (i + 1) (wpQ_way (q83_l0b _ _ (cnD (a.take i)) z (ints a) e a.length i _) ?_) hi (by omega) rfl
        have hneg : gi a i < 0 := by omega
        have hn := w_number (gi a i)
        have hv1 : IntKind.wrap .i64 (-1 - gi a i) = (vN (gi a i) : Int) := by rw [wr _ (by omega) (by omega)]; unfold vN; omega
        rw [hv1] at hn
        have hv24 : vN (gi a i) < 24 := by unfold vN; omega
        have hset := cnD_go (a.take i) hneg hci
        have hoc := occ_le (a.take i) (vN (gi a i))
        rw [List.length_take] at hoc
        have hw2 : IntKind.wrap .i64 ((occ (a.take i) (vN (gi a i)) : Int) + 1) = (occ (a.take i) (vN (gi a i)) : Int) + 1 := wr _ (by omega) (by omega)
        rw [ht, ← hset]
        obtain ⟨v, hv⟩ : ∃ v, v = vN (gi a i) := ⟨_, rfl⟩
        rw [← hv] at hn hv24 hw2 ⊢
        have hvi : (v : Int) < 24 := by omega
        have hba := cnD_at (a.take i) hv24
        have hvle : v + 1 ≤ 24 := hv24
        have hv23 : (v : Int) ≤ 23 := by omega
        simp [-Bool.exists_bool, -getElem?_pos, -Int.natCast_add, hi', hat, hneg, hw1, hn, hvi, hv23, hba, hvle, cnD_len, D.cells, setR, hw2]) i hi
theorem w_often {a : List Int} (ha : Len a) (hc : ∀ c ∈ a, -24 ≤ c) (z : Bool) (e : List D) : C 83 [iS z a e] = some (.d (.agg (cnD a)), [iS z a e]) := by
  refine wfn (lk := []) rfl rfl (fnW_way (q83 _ _ z (ints a) e _) ?_)
  have h1 := l_often ha hc z e 0 (Nat.zero_le _)
  have h0 : cnD (a.take 0) = [.int .i64 0, .int .i64 0, .int .i64 0, .int .i64 0, .int .i64 0, .int .i64 0, .int .i64 0, .int .i64 0, .int .i64 0, .int .i64 0, .int .i64 0, .int .i64 0, .int .i64 0, .int .i64 0, .int .i64 0, .int .i64 0, .int .i64 0, .int .i64 0, .int .i64 0, .int .i64 0, .int .i64 0, .int .i64 0, .int .i64 0, .int .i64 0] := rfl
  rw [h0] at h1
  rw [ints_len]
  refine ⟨_, _, _, _, _, _, h1, ?_⟩
  have h2 := cnD_width a
  simp [cnD_len, h2, D.cells]
theorem l_covers (a b : List Int) (i : Nat) (hi : i ≤ 24) :
    ((∀ j, i ≤ j → j < 24 → decide (occ b j ≤ occ a j) = true) ∧ evP F (Go.Ab.W F) (JW F d60 []) d60 [] [1,1,0,1] [(5, .dbox 110 0 (cnD a)), (6, .dbox 110 0 (cnD b)), (12, iI i)] = some (.norm [(5, .dbox 110 0 (cnD a)), (6, .dbox 110 0 (cnD b)), (12, iI (24 : Nat))])) ∨
    ((∃ j, i ≤ j ∧ j < 24 ∧ decide (occ b j ≤ occ a j) = false) ∧ evP F (Go.Ab.W F) (JW F d60 []) d60 [] [1,1,0,1] [(5, .dbox 110 0 (cnD a)), (6, .dbox 110 0 (cnD b)), (12, iI i)] = some (.ret [(4, iB false)])) :=
  blk_all (F := F) (d := d60) (lk := []) (p := [1,1,0,1,0,0]) (p0 := [1,1,0,1]) (id := 0) (by kernel_rfl) (n := 24) (st := fun i => [(5, .dbox 110 0 (cnD a)), (6, .dbox 110 0 (cnD b)), (12, iI (i : Nat))]) (q := fun j => decide (occ b j ≤ occ a j)) (rt := [(4, iB false)]) (e := [(5, .dbox 110 0 (cnD a)), (6, .dbox 110 0 (cnD b)), (12, iI (24 : Nat))])
    (fun i hi hq => wpQ_way (q60_l0a _ _ (cnD a) (cnD b) i _) (by
      have h1 := cnD_at a hi
      have h2 := cnD_at b hi
      have h3 : (i : Int) < 24 := by omega
      have hq2 : occ b i ≤ occ a i := by simpa using hq
      have hq' : ¬ (occ a i < occ b i) := by omega
      have hw1 := wr1 hi (show 24 ≤ 9223372036854775807 by omega)
      simp [-Bool.exists_bool, -getElem?_pos, -Int.natCast_add, h1, h2, h3, hq', hq2, hw1]))
    (fun i hi hq => wpQ_way (q60_l0a _ _ (cnD a) (cnD b) i _) (by
      have h1 := cnD_at a hi
      have h2 := cnD_at b hi
      have h3 : (i : Int) < 24 := by omega
      have hq' : (occ a i < occ b i) := by simpa using hq
      simp [-Bool.exists_bool, -getElem?_pos, -Int.natCast_add, h1, h2, h3, hq']))
    (wpQ_way (q60_l0a _ _ (cnD a) (cnD b) 24 _) (by simp)) i hi
theorem w_covers {a b : List Int} (ha : Len a) (hb : Len b) (hc : ∀ c ∈ a, -24 ≤ c) (hd : ∀ c ∈ b, -24 ≤ c) (z z' : Bool) (e e' : List D) : C 60 [iS z a e, iS z' b e'] = some (iB (covB a b), [iS z a e, iS z' b e']) := by
  refine wfn (lk := []) rfl rfl (fnW_way (q60 _ _ z (ints a) e z' (ints b) e' _) ?_)
  refine ⟨_, _, w_often ha hc z e, _, _, w_often hb hd z' e', ?_⟩
  have e1 : (D.width (.agg (cnD a)) == 24) = true := by rw [cnD_width]; rfl
  have e2 : (D.width (.agg (cnD b)) == 24) = true := by rw [cnD_width]; rfl
  rw [e1, e2, condW_tt, condW_tt]
  have hca : D.cells (.agg (cnD a)) = cnD a := rfl
  have hcb : D.cells (.agg (cnD b)) = cnD b := rfl
  rw [hca, hcb]
  rcases l_covers a b 0 (Nat.zero_le _) with ⟨h1, h2⟩ | ⟨⟨j, _, h1, h3⟩, h2⟩
  · have : covB a b = true := by
      unfold covB
      rw [List.all_eq_true]
      exact fun v hv => h1 v (Nat.zero_le _) (List.mem_range.1 hv)
    rw [this]
    exact .inr ⟨_, _, _, h2, rfl⟩
  · have : covB a b = false := by
      cases h : covB a b with
      | false => rfl
      | true => have := cov_iff.1 h j h1; simp at h3; omega
    rw [this]
    exact .inl ⟨_, h2, rfl⟩
end Go.Proofs.YtmldmhbdeejcnaaDoor.Ab

/- Which term is more: what the program's functions hand back (the comparison). For every input; no condition. -/
set_option linter.unusedVariables false
set_option linter.unusedSimpArgs false
set_option maxRecDepth 100000
namespace Go.Proofs.YtmldmhbdeejcnaaDoor.Ab
open Go Go.Ab Go.Qu Go.Proofs
attribute [local simp] and_assoc
def pcR (z : Bool) (ts : List (List Int)) : List Row := ts.map fun t => ⟨z, t, []⟩
theorem pcR_len (z : Bool) (ts : List (List Int)) : (pcR z ts).length = ts.length := by simp [pcR]
theorem pcR_at {z : Bool} {ts : List (List Int)} {i : Nat} {t : List Int} (h : ts[i]? = some t) : (rws (pcR z ts))[i]? = some (.sl 1 z (ints t) []) := by
  simp [pcR, rws, h, Row.d]
theorem l_pieces {g : List Sym} (hg : SigOk g) (z z' : Bool) (e e' : List D) {r : List Int} (hr : r.length ≤ 1000) (x : List (List Int) × Nat)
    (hx : x.2 ≤ r.length ∧ x.1.length ≤ x.2 ∧ (∃ m, lenN g (r.drop x.2) m = some (r.length - x.2)) ∧ x.1 ++ pcs g (r.drop x.2) = pcs g r) :
    evP F (Go.Ab.W F) (JW F d65 []) d65 [] [1,1,0,1] [(0, iG z g e), (1, iS z' r e'), (5, .own x.1.isEmpty 23 1 (rws (pcR z' x.1))), (6, iI x.2)] = some (.norm [(0, iG z g e), (1, iS z' r e'), (5, .own (pcs g r).isEmpty 23 1 (rws (pcR z' (pcs g r)))), (6, iI r.length)]) :=
  blk_fun (F := F) (d := d65) (lk := []) (p := [1,1,0,1,0,0]) (p0 := [1,1,0,1]) (id := 0) (by kernel_rfl) (st := fun (x : List (List Int) × Nat) => [(0, iG z g e), (1, iS z' r e'), (5, .own x.1.isEmpty 23 1 (rws (pcR z' x.1))), (6, iI x.2)]) (I := fun x => x.2 ≤ r.length ∧ x.1.length ≤ x.2 ∧ (∃ m, lenN g (r.drop x.2) m = some (r.length - x.2)) ∧ x.1 ++ pcs g (r.drop x.2) = pcs g r) (μ := fun x => r.length - x.2)
    (res := fun _ => .norm [(0, iG z g e), (1, iS z' r e'), (5, .own (pcs g r).isEmpty 23 1 (rws (pcR z' (pcs g r)))), (6, iI r.length)])
    (fun x hx => by
      obtain ⟨out, i⟩ := x
      obtain ⟨h1, h2, ⟨m, h3⟩, h4⟩ := hx
      dsimp only at h1 h2 h3 h4
      by_cases hi : i < r.length
      rotate_left
      · have e0 : i = r.length := by omega
        subst e0
        refine .stop (.exit 0 [(0, iG z g e), (1, iS z' r e'), (5, .own out.isEmpty 23 1 (rws (pcR z' out))), (6, iI r.length)]) (wpQ_way (q65_l0a _ _ z (syms g) e z' (ints r) e' out.isEmpty (rws (pcR z' out)) r.length _) (by simp [ints_len])) rfl ?_
        rw [List.drop_length, pcs_nil, List.append_nil] at h4
        rw [h4]; rfl
      have hi' : (i : Int) < r.length := by omega
      have hm : m ≠ 0 := fun e0 => by
        subst e0
        have : lenN g (r.drop i) 0 = some 0 := by cases r.drop i <;> rfl
        rw [this] at h3
        simp at h3; omega
      obtain ⟨m, rfl⟩ : ∃ m', m = m' + 1 := ⟨m - 1, by omega⟩
      obtain ⟨k1, k2, h5, h6, h7⟩ := lenN_first h3
      have hle := lenN_le h5
      simp only [List.length_drop] at hle
      have hsk := w_skip hg z z' e e' (r := r) (by omega) i
      rw [skB, skV, h5] at hsk
      have hne : r.drop i ≠ [] := by simp; omega
      rw [pcs_some hne h5, List.drop_drop] at h4
      have hpc : List.drop i (tkX (i + k1) (ints r) e') = ints ((r.drop i).take k1) := by
        rw [tkX_ints (by omega), ints_drop, List.drop_take, Nat.add_sub_cancel_left]
      have hk1 : (i : Int) ≤ ((i + k1 : Nat) : Int) := by omega
      have hk2 : ((i + k1 : Nat) : Int) ≤ ((r.length + e'.length : Nat) : Int) := by omega
      have hk3 : ((i + k1 : Nat) : Int) ≤ (r.length : Int) + (e'.length : Int) := by omega
      have hl1 : (rws (pcR z' out)).length = out.length := by rw [rws_len, pcR_len]
      have hb1 : out.length + 1 ≤ 9223372036854775807 := by omega
      have hb2 : (out.length + 1) * 24 ≤ 140737488355328 := by omega
      refine .go (out ++ [(r.drop i).take k1], i + k1) (wpQ_way (q65_l0a _ _ z (syms g) e z' (ints r) e' out.isEmpty (rws (pcR z' out)) i _) ?_) ⟨by dsimp only; omega, by simp; omega, ⟨m, by dsimp only; rw [← List.drop_drop, h6]; congr 1; omega⟩, by dsimp only; rw [List.append_assoc]; exact h4⟩ (by dsimp only; omega) rfl
      have hrw : rws (pcR z' (out ++ [(r.drop i).take k1])) = rws (pcR z' out) ++ [.sl 1 z' (ints ((r.drop i).take k1)) []] := by simp [pcR, rws, Row.d]
      have hem : (out ++ [(r.drop i).take k1]).isEmpty = false := by simp
      dsimp only
      rw [hrw, hem]
      simp [-Bool.exists_bool, -getElem?_pos, -Int.natCast_add, -List.length_take, -List.length_drop, hi', ints_len, hsk, hpc, hk1, hk2, hk3, hl1, hb1, hb2]) x hx
theorem w_pieces {g : List Sym} (hg : SigOk g) (z z' : Bool) (e e' : List D) {r : List Int} (hr : r.length ≤ 1000) {n : Nat} (h : lenN g r n = some r.length) :
    C 65 [iG z g e, iS z' r e'] = some (.own (pcs g r).isEmpty 23 1 (rws (pcR z' (pcs g r))), [iG z g e, iS z' r e']) := by
  refine wfn (lk := []) rfl rfl (fnW_way (q65 _ _ z (syms g) e z' (ints r) e' _) ?_)
  have h1 := l_pieces hg z z' e e' hr ([], 0) ⟨Nat.zero_le _, Nat.zero_le _, ⟨n, by simpa using h⟩, rfl⟩
  exact .inr ⟨_, _, _, _, _, _, _, _, _, h1, rfl⟩
theorem l_unlike {us vs : List (List Int)} (ha : us.length ≤ 1000) (hl : ∀ x ∈ us, Len x) (hlb : ∀ x ∈ vs, Len x) (z1 z2 : Bool) (zb za : Bool) (i : Nat) (hi : i ≤ us.length) :
    evP F (Go.Ab.W F) (JW F d61 []) d61 [] [1,1,0,1] [(8, .own zb 23 1 (rws (pcR z2 vs))), (16, .own za 23 1 (rws (pcR z1 us))), (17, iI us.length), (18, iI i)] = some (match unlF (us.drop i) (vs.drop i) with | some (x, y) => .ret [(6, iS z1 x []), (7, iS z2 y [])] | none => .norm [(8, .own zb 23 1 (rws (pcR z2 vs))), (16, .own za 23 1 (rws (pcR z1 us))), (17, iI us.length), (18, iI us.length)]) :=
  blk_fun (F := F) (d := d61) (lk := []) (p := [1,1,0,1,0,0]) (p0 := [1,1,0,1]) (id := 0) (by kernel_rfl) (st := fun (i : Nat) => [(8, .own zb 23 1 (rws (pcR z2 vs))), (16, .own za 23 1 (rws (pcR z1 us))), (17, iI us.length), (18, iI i)]) (I := fun i => i ≤ us.length) (μ := fun i => us.length - i)
    (res := fun i => match unlF (us.drop i) (vs.drop i) with | some (x, y) => .ret [(6, iS z1 x []), (7, iS z2 y [])] | none => .norm [(8, .own zb 23 1 (rws (pcR z2 vs))), (16, .own za 23 1 (rws (pcR z1 us))), (17, iI us.length), (18, iI us.length)])
    (fun i hx => by
      by_cases hi : i < us.length
      rotate_left
      · have e0 : i = us.length := by omega
        subst e0
        refine .stop (.exit 0 [(8, .own zb 23 1 (rws (pcR z2 vs))), (16, .own za 23 1 (rws (pcR z1 us))), (17, iI us.length), (18, iI us.length)]) (wpQ_way (q61_l0a _ _ zb (rws (pcR z2 vs)) za (rws (pcR z1 us)) us.length us.length _) (by simp)) rfl ?_
        rw [List.drop_length, unlF]; rfl
        simp
      obtain ⟨x, hx⟩ := at_lt hi
      have hxa := pcR_at (z := z1) hx
      have hi' : (i : Int) < us.length := by omega
      have hda : us.drop i = x :: us.drop (i + 1) := by
        rw [List.drop_eq_getElem_cons hi]; rw [List.getElem?_eq_getElem hi] at hx; cases hx; rfl
      have hw1 := wr1 hi (show us.length ≤ 9223372036854775807 by omega)
      have hlb1 : (rws (pcR z2 vs)).length = vs.length := by rw [rws_len, pcR_len]
      by_cases hb : i < vs.length
      rotate_left
      · have hb' : ¬ (i : Int) < vs.length := by omega
        have hb'' : vs.length ≤ i := by omega
        refine .go (i + 1) (wpQ_way (q61_l0a _ _ zb (rws (pcR z2 vs)) za (rws (pcR z1 us)) us.length i _) ?_) hi (by omega) ?_
        · simp [-Bool.exists_bool, -getElem?_pos, -Int.natCast_add, hi', hxa, hb', hb'', hlb1, hw1]
        · rw [List.drop_of_length_le (l := vs) (by omega), List.drop_of_length_le (l := vs) (by omega)]
          cases us.drop (i + 1) <;> cases us.drop i <;> rfl
      obtain ⟨y, hy⟩ := at_lt hb
      have hyb := pcR_at (z := z2) hy
      have hb' : (i : Int) < vs.length := by omega
      have hdb : vs.drop i = y :: vs.drop (i + 1) := by
        rw [List.drop_eq_getElem_cons hb]; rw [List.getElem?_eq_getElem hb] at hy; cases hy; rfl
      have heq := w_equal (hl x (List.mem_of_getElem? hx)) y z1 z2 [] []
      by_cases hxy : x = y
      · rw [decide_eq_true hxy] at heq
        refine .go (i + 1) (wpQ_way (q61_l0a _ _ zb (rws (pcR z2 vs)) za (rws (pcR z1 us)) us.length i _) ?_) hi (by omega) ?_
        · simp [-Bool.exists_bool, -getElem?_pos, -Int.natCast_add, hi', hxa, hyb, hb', hb, hlb1, heq, hw1]
        · rw [hda, hdb, unlF, if_pos hxy]
      · rw [decide_eq_false hxy] at heq
        refine .stop (.ret [(6, iS z1 x []), (7, iS z2 y [])]) (wpQ_way (q61_l0a _ _ zb (rws (pcR z2 vs)) za (rws (pcR z1 us)) us.length i _) ?_) rfl ?_
        · simp [-Bool.exists_bool, -getElem?_pos, -Int.natCast_add, hi', hxa, hyb, hb', hb, hlb1, heq]
        · rw [hda, hdb, unlF, if_neg hxy]; rfl) i hi
theorem w_unlike {g : List Sym} (hg : SigOk g) (z z1 z2 : Bool) (e e1 e2 : List D) {a b : List Int} (ha : a.length ≤ 1000) (hb : b.length ≤ 1000) {n m : Nat} (h : lenN g a n = some a.length) (h' : lenN g b m = some b.length) :
    C 61 [iG z g e, iS z1 a e1, iS z2 b e2] = some ((match unlF (pcs g a) (pcs g b) with | some (x, y) => .tup [iS z1 x [], iS z2 y []] | none => .tup [.d (.sl 1 true [] []), .d (.sl 1 true [] [])]), [iG z g e, iS z1 a e1, iS z2 b e2]) := by
  refine wfn (lk := []) rfl rfl (fnW_way (q61 _ _ z (syms g) e z1 (ints a) e1 z2 (ints b) e2 _) ?_)
  refine ⟨_, _, _, _, w_pieces hg z z2 e e2 hb h', _, _, _, _, w_pieces hg z z1 e e1 ha h, ?_⟩
  have hla : ∀ x ∈ pcs g a, Len x := fun x hx => by have := pcs_len (g := g) _ (Nat.le_refl _) x hx; unfold Len; omega
  have hlb : ∀ x ∈ pcs g b, Len x := fun x hx => by have := pcs_len (g := g) _ (Nat.le_refl _) x hx; unfold Len; omega
  have hn : (pcs g a).length ≤ 1000 := by
    have h1 := (pcs_row h).2.2
    have h2 := lenN_le h
    omega
  have h1 := l_unlike hn hla hlb z1 z2 (pcs g b).isEmpty (pcs g a).isEmpty 0 (Nat.zero_le _)
  rw [List.drop_zero, List.drop_zero] at h1
  have hl1 : (rws (pcR z1 (pcs g a))).length = (pcs g a).length := by rw [rws_len, pcR_len]
  rw [hl1]
  cases hu : unlF (pcs g a) (pcs g b) with
  | none => rw [hu] at h1; exact .inr ⟨_, _, _, _, _, _, h1, rfl⟩
  | some p => obtain ⟨x, y⟩ := p; rw [hu] at h1; exact .inl ⟨_, _, _, _, _, _, h1, rfl⟩
/-! ### More -/
/-- What may be compared: a term's codes, or an atom's. -/
def ObjOk (g : List Sym) (a : List Int) : Prop := a ≠ [] ∧ a.length ≤ 49 ∧ (∀ c ∈ a, -24 ≤ c ∧ c < g.length) ∧ ∃ n, lenN g a.tail n = some a.tail.length
theorem obj_one {g : List Sym} {a : List Int} (h : One g a) (hl : a.length ≤ 49) : ObjOk g a := by
  have h1 := one_24 h
  have h2 := (one_codes h).2
  obtain ⟨c, r, n, rfl, h3, h4⟩ := one_cons h
  exact ⟨by simp, hl, fun x hx => ⟨h1 x hx, h2 x hx⟩, n, h4⟩
theorem obj_atom {g : List Sym} {a : List Int} (h : atomB g a = true) : ObjOk g a := by
  have h1 := atom_codes h
  cases a with
  | nil => simp [atomB] at h
  | cons p r =>
    refine ⟨by simp, h1.1, h1.2.1, ?_⟩
    unfold atomB at h
    dsimp only at h
    split at h
    · cases h
    · split at h
      · cases h
      · simp only [Bool.and_eq_true] at h
        have h2 := h.2
        split at h2
        · rename_i ts hts
          unfold rowP at hts
          split at hts
          · exact ⟨_, parts_all _ (Nat.le_refl _) hts⟩
          · cases hts
        · cases h2
def moreB (g : List Sym) (a b : List Int) : Bool := moreF g a.length a b
theorem more_fuel {g : List Sym} {a b : List Int} {n : Nat} (ha : a ≠ []) (hn : a.length ≤ n) : moreF g n a b = moreB g a b :=
  Bool.eq_iff_iff.2 ⟨fun h => more_to (more_of h) (Nat.le_refl _) ha, fun h => more_to (more_of h) hn ha⟩
def mB (g : List Sym) (x : Row × Row) : Bool := !x.1.z && moreB g x.1.l x.2.l
theorem l_more {g : List Sym} (hg : SigOk g) (z : Bool) (e : List D) (x : Row × Row) (hx : x.1.z = true ∨ (x.1.z = false ∧ ObjOk g x.1.l ∧ ObjOk g x.2.l)) :
    ∃ o, evP F (Go.Ab.W F) (JW F d32 []) d32 [] [1,0] [(0, iG z g e), (1, iS x.1.z x.1.l x.1.e), (2, iS x.2.z x.2.l x.2.e)] = some o ∧ (o = .ret [(6, iB (mB g x))] ∨ ∃ y : Row × Row, o = .norm [(0, iG z g e), (1, iS y.1.z y.1.l y.1.e), (2, iS y.2.z y.2.l y.2.e)] ∧ mB g x = false) :=
  blk_rule (F := F) (d := d32) (lk := []) (p := [1,0,0,0]) (p0 := [1,0]) 0 (by kernel_rfl) (fun (x : Row × Row) => [(0, iG z g e), (1, iS x.1.z x.1.l x.1.e), (2, iS x.2.z x.2.l x.2.e)]) (fun x => x.1.z = true ∨ (x.1.z = false ∧ ObjOk g x.1.l ∧ ObjOk g x.2.l)) (fun x => if x.1.z then 0 else x.1.l.length)
    (fun x o => o = .ret [(6, iB (mB g x))] ∨ ∃ y : Row × Row, o = .norm [(0, iG z g e), (1, iS y.1.z y.1.l y.1.e), (2, iS y.2.z y.2.l y.2.e)] ∧ mB g x = false)
    (fun x hx => by
      obtain ⟨⟨za, a, ea⟩, ⟨zb, b, eb⟩⟩ := x
      dsimp only at hx
      cases za with
      | true =>
        refine .inr ⟨.exit 0 [(0, iG z g e), (1, iS true a ea), (2, iS zb b eb)], wpQ_way (q32_l0a _ _ z (syms g) e true (ints a) ea zb (ints b) eb _) (by simp), rfl, .inr ⟨(⟨true, a, ea⟩, ⟨zb, b, eb⟩), rfl, by simp [mB]⟩⟩
      | false =>
        obtain ⟨ha, hb⟩ : ObjOk g a ∧ ObjOk g b := by simpa using hx
        obtain ⟨a1, a2, a3, n, a4⟩ := ha
        obtain ⟨b1, b2, b3, m, b4⟩ := hb
        have hla : Len a := by unfold Len; omega
        have hlb : Len b := by unfold Len; omega
        have hcov := w_covers hla hlb (fun c hc => (a3 c hc).1) (fun c hc => (b3 c hc).1) false zb ea eb
        have hsa := w_sum hg hla (fun c hc => (a3 c hc).2) z false e ea
        have hsb := w_sum hg hlb (fun c hc => (b3 c hc).2) z zb e eb
        have hna : 1 ≤ a.length := List.length_pos_iff.2 a1
        have hnb : 1 ≤ b.length := List.length_pos_iff.2 b1
        have hga : (ints a)[0]? = some (.int .i64 (gi a 0)) := Go.Ab.ints_at hna
        have hgb : (ints b)[0]? = some (.int .i64 (gi b 0)) := Go.Ab.ints_at hnb
        obtain ⟨k, hk⟩ : ∃ k, a.length = k + 1 := ⟨a.length - 1, by omega⟩
        have hM : mB g (⟨false, a, ea⟩, ⟨zb, b, eb⟩) = moreF g (k + 1) a b := by simp [mB, moreB, hk]
        by_cases hc : covB a b = true
        rotate_left
        · have hc : covB a b = false := by simpa using hc
          rw [hc] at hcov
          refine .inr ⟨.exit 0 [(0, iG z g e), (1, iS false a ea), (2, iS zb b eb)], wpQ_way (q32_l0a _ _ z (syms g) e false (ints a) ea zb (ints b) eb _) (by simp [-Bool.exists_bool, hcov]), rfl, .inr ⟨(⟨false, a, ea⟩, ⟨zb, b, eb⟩), rfl, ?_⟩⟩
          rw [hM, moreF, if_pos hc]
        rw [hc] at hcov
        have hcn : ¬ covB a b = false := by simp [hc]
        by_cases hs : sumW g a = sumW g b
        rotate_left
        · refine .inr ⟨.ret [(6, iB (decide (sumW g b < sumW g a)))], wpQ_way (q32_l0a _ _ z (syms g) e false (ints a) ea zb (ints b) eb _) ?_, rfl, .inl ?_⟩
          · by_cases hlt : sumW g b < sumW g a
            · simp [-Bool.exists_bool, hcov, hsa, hsb, hs, hlt]
            · have hle : sumW g a ≤ sumW g b := by omega
              simp [-Bool.exists_bool, hcov, hsa, hsb, hs, hlt, hle]
          · rw [hM, moreF, if_neg hcn, if_pos hs]; rfl
        by_cases hh : gi a 0 = gi b 0
        rotate_left
        · refine .inr ⟨.ret [(6, iB (decide (gi b 0 < gi a 0)))], wpQ_way (q32_l0a _ _ z (syms g) e false (ints a) ea zb (ints b) eb _) ?_, rfl, .inl ?_⟩
          · by_cases hlt : gi b 0 < gi a 0
            · simp [-Bool.exists_bool, -getElem?_pos, hcov, hsa, hsb, hs, hga, hgb, hh, hlt]
            · have hle : gi a 0 ≤ gi b 0 := by omega
              simp [-Bool.exists_bool, -getElem?_pos, hcov, hsa, hsb, hs, hga, hgb, hh, hlt, hle]
          · rw [hM, moreF, if_neg hcn, if_neg (by simpa using hs), if_pos hh]; rfl
        have hu := w_unlike hg z false zb e [] [] (a := a.tail) (b := b.tail) (by simp; omega) (by simp; omega) a4 b4
        have hda : (ints a).tail = ints a.tail := by simp [ints]
        have hdb : (ints b).tail = ints b.tail := by simp [ints]
        have hlia : (1 : Int) ≤ ((ints a).length : Int) := by rw [ints_len]; omega
        have hlib : (1 : Int) ≤ ((ints b).length : Int) := by rw [ints_len]; omega
        cases hq : unlF (pcs g a.tail) (pcs g b.tail) with
        | none =>
          rw [hq] at hu
          refine .inl ⟨(⟨true, [], []⟩, ⟨true, [], []⟩), wpQ_way (q32_l0a _ _ z (syms g) e false (ints a) ea zb (ints b) eb _) ?_, .inl rfl, by simp; omega, fun o ho => ?_⟩
          · simp [-Bool.exists_bool, -getElem?_pos, hcov, hsa, hsb, hs, hga, hgb, hh, hda, hdb, hlia, hlib, hu, ints_nil]
          · have : mB g (⟨false, a, ea⟩, ⟨zb, b, eb⟩) = false := by rw [hM, moreF, if_neg hcn, if_neg (by simpa using hs), if_neg (by simpa using hh), hq]
            rw [this]
            simpa [mB] using ho
        | some p =>
          obtain ⟨u, v⟩ := p
          rw [hq] at hu
          have hmem := unl_mem hq
          have hu1 := (pcs_row a4).1 u hmem.1
          have hv1 := (pcs_row b4).1 v hmem.2
          have hu2 := pcs_len (g := g) _ (Nat.le_refl _) u hmem.1
          have hv2 := pcs_len (g := g) _ (Nat.le_refl _) v hmem.2
          have hu3 := hu2.2
          have hv3 := hv2.2
          simp only [List.length_tail] at hu3 hv3
          have hmm : mB g (⟨false, a, ea⟩, ⟨zb, b, eb⟩) = mB g (⟨false, u, []⟩, ⟨zb, v, []⟩) := by
            rw [hM, moreF, if_neg hcn, if_neg (by simpa using hs), if_neg (by simpa using hh), hq]
            dsimp only
            rw [more_fuel hu2.1 (by omega)]
            simp [mB]
          refine .inl ⟨(⟨false, u, []⟩, ⟨zb, v, []⟩), wpQ_way (q32_l0a _ _ z (syms g) e false (ints a) ea zb (ints b) eb _) ?_, .inr ⟨rfl, obj_one hu1 (show u.length ≤ 49 by omega), obj_one hv1 (show v.length ≤ 49 by omega)⟩, by simp; omega, fun o ho => ?_⟩
          · simp [-Bool.exists_bool, -getElem?_pos, hcov, hsa, hsb, hs, hga, hgb, hh, hda, hdb, hlia, hlib, hu]
          · rw [hmm]; exact ho) x hx
theorem w_more {g : List Sym} (hg : SigOk g) (z z1 z2 : Bool) (e e1 e2 : List D) {a b : List Int} (ha : ObjOk g a) (hb : ObjOk g b) (hz : z1 = true → a = []) :
    C 32 [iG z g e, iS z1 a e1, iS z2 b e2] = some (iB (moreB g a b), [iG z g e, iS z1 a e1, iS z2 b e2]) := by
  have hz1 : z1 = false := by
    cases z1 with
    | false => rfl
    | true => exact absurd (hz rfl) ha.1
  subst hz1
  refine wfn (lk := []) rfl rfl (fnW_way (q32 _ _ z (syms g) e false (ints a) e1 z2 (ints b) e2 _) ?_)
  obtain ⟨o, h1, h2⟩ := l_more hg z e (⟨false, a, e1⟩, ⟨z2, b, e2⟩) (.inr ⟨rfl, ha, hb⟩)
  have hm : mB g (⟨false, a, e1⟩, ⟨z2, b, e2⟩) = moreB g a b := by simp [mB]
  rw [hm] at h2
  rcases h2 with rfl | ⟨y, rfl, h3⟩
  · exact .inl ⟨_, h1, rfl⟩
  · rw [h3]
    exact .inr ⟨_, _, _, _, _, _, _, _, _, h1, rfl⟩
end Go.Proofs.YtmldmhbdeejcnaaDoor.Ab

/- Binds: what the program's functions hand back. For every input; no condition. -/
set_option linter.unusedVariables false
set_option linter.unusedSimpArgs false
set_option maxRecDepth 100000
namespace Go.Proofs.YtmldmhbdeejcnaaDoor.Ab
open Go Go.Ab Go.Qu Go.Proofs
attribute [local simp] and_assoc
/-- Not too many binds. -/
def LenB (s : List Bd) : Prop := s.length ≤ 10000000000000
def rowAt (s : List Bd) (i : Nat) : Row := match s[i]? with | some b => b.r | none => ⟨true, [], []⟩
theorem w_bfind {s : List Bd} (hl : LenB s) (z : Bool) (e : List D) (v : Int) : C 82 [iBd z s e, iI v] = some (iS (findB s v).z (findB s v).l (findB s v).e, [iBd z s e, iI v]) := by
  unfold LenB at hl
  refine wfn (lk := []) rfl rfl (fnW_way (q82 _ _ z (bds s) e v _) ?_)
  rcases blk_find (F := F) (d := d82) (lk := []) (p := [1,0,1,0,0]) (p0 := [1,0,1]) (by kernel_rfl) (n := s.length) (id := 0) (st := fun i => [(1, iI v), (7, iBd z s e), (8, iI s.length), (9, iI i)]) (q := fun i => match s[i]? with | some b => b.v == v | none => false) (rt := fun i => [(4, iS (rowAt s i).z (rowAt s i).l (rowAt s i).e)]) (e := [(1, iI v), (7, iBd z s e), (8, iI s.length), (9, iI s.length)])
    (fun i hi hq => by
      refine wpQ_way (q82_l0a _ _ v z (bds s) e _ i _) ?_
      obtain ⟨b, hb⟩ := at_lt hi
      simp [hb] at hq
      have hr : rowAt s i = b.r := by simp [rowAt, hb]
      simp [-Bool.exists_bool, -getElem?_pos, wr1 hi (by omega), hi, bds_at hb, hq, hr])
    (fun i hi hq => by
      refine wpQ_way (q82_l0a _ _ v z (bds s) e _ i _) ?_
      obtain ⟨b, hb⟩ := at_lt hi
      simp [hb] at hq
      have hr : rowAt s i = b.r := by simp [rowAt, hb]
      simp [-Bool.exists_bool, -getElem?_pos, wr1 hi (by omega), hi, bds_at hb, hq, hr])
    (wpQ_way (q82_l0a _ _ v z (bds s) e _ s.length _) (by simp)) 0 (Nat.zero_le _) with ⟨h2, h3⟩ | ⟨j, h1, h2, h4, h5, h3⟩
  · have hf : findB s v = ⟨true, [], []⟩ := findB_none (fun k hk c hc => by
      have := h2 k (Nat.zero_le _) hk
      rw [hc] at this; simpa using this)
    rw [hf]
    simp at h3
    refine Or.inr ⟨_, _, _, _, _, _, by rw [bds_len]; exact h3, rfl⟩
  · obtain ⟨b, hb⟩ := at_lt h2
    rw [hb] at h4
    have hf : findB s v = b.r := findB_some hb (by simpa using h4) (fun k hk c hc => by
      have := h5 k (Nat.zero_le _) hk
      rw [hc] at this; simpa using this)
    have hr : rowAt s j = b.r := by simp [rowAt, hb]
    rw [hf]
    simp at h3
    rw [hr] at h3
    refine Or.inl ⟨_, _, _, by rw [bds_len]; exact h3, rfl⟩
theorem w_isterm (z z' : Bool) (g : List Sym) (e e' : List D) (r : List Int) : C 29 [iG z g e, iS z' r e'] = some (iB (oneB g r), [iG z g e, iS z' r e']) := by
  refine wfn (lk := []) rfl rfl (fnW_way (q29 _ _ z (syms g) e z' (ints r) e' _) ?_)
  have h1 := w_begins z z' g e e' r
  refine ⟨_, _, _, _, _, h1, ?_⟩
  cases h : rowB g r
  · simp [oneB, h]
  · rw [condW_tt, ints_len]
    have e1 : (begsM g r).length = termsN g r := rfl
    rw [e1]
    by_cases h1 : termsN g r = 1
    · simp [oneB, h, h1]
    · have h2 : ((termsN g r : Int) == 1) = false := by simp; omega
      rw [h2, condW_ff]
      simp [oneB, h, h1]
end Go.Proofs.YtmldmhbdeejcnaaDoor.Ab

/- Compare, and which rewrites may be: what the program's functions hand back. For every input; no condition. -/
set_option linter.unusedVariables false
set_option linter.unusedSimpArgs false
set_option maxRecDepth 100000
namespace Go.Proofs.YtmldmhbdeejcnaaDoor.Ab
open Go Go.Ab Go.Qu Go.Proofs
attribute [local simp] and_assoc
def cmpOk (g : List Sym) (a b : List Int) : Bool := (oneB g a && oneB g b) || (atomB g a && atomB g b)
def cmpV (g : List Sym) (a b : List Int) : Int := if cmpOk g a b = false then 0 else if a = b then 1 else if moreB g a b then 2 else if moreB g b a then 0 else 3
theorem one_sig {g : List Sym} {a : List Int} (h : oneB g a = true) : SigOk g ∧ ObjOk g a := by
  obtain ⟨h1, h2, h3⟩ := one_lenN h
  exact ⟨sigOk h1, obj_one h3 (by omega)⟩
theorem cmp_ok {g : List Sym} {a b : List Int} (h : cmpOk g a b = true) : SigOk g ∧ ObjOk g a ∧ ObjOk g b := by
  unfold cmpOk at h
  simp only [Bool.or_eq_true, Bool.and_eq_true] at h
  rcases h with ⟨h1, h2⟩ | ⟨h1, h2⟩
  · exact ⟨(one_sig h1).1, (one_sig h1).2, (one_sig h2).2⟩
  · exact ⟨sigOk (atom_sig h1), obj_atom h1, obj_atom h2⟩
theorem w_compare (z z1 z2 : Bool) (g : List Sym) (e e1 e2 : List D) (a b : List Int) (ha : z1 = true → a = []) (hb : z2 = true → b = []) :
    C 10 [iG z g e, iS z1 a e1, iS z2 b e2] = some (.tup [iI (cmpV g a b), iI (if cmpOk g a b = true then 0 else 600)], [iG z g e, iS z1 a e1, iS z2 b e2]) := by
  refine wfn (lk := []) rfl rfl (fnW_way (q10 _ _ z (syms g) e z1 (ints a) e1 z2 (ints b) e2 _) ?_)
  have t1 := w_isterm z z1 g e e1 a
  have t2 := w_isterm z z2 g e e2 b
  have t3 := w_isatom z z1 g e e1 a
  have t4 := w_isatom z z2 g e e2 b
  cases hok : cmpOk g a b with
  | false =>
    have hv : cmpV g a b = 0 := by rw [cmpV, if_pos hok]
    rw [hv]
    unfold cmpOk at hok
    cases h1 : oneB g a <;> cases h2 : oneB g b <;> cases h3 : atomB g a <;> cases h4 : atomB g b <;> simp [h1, h2, h3, h4] at hok <;> simp [-Bool.exists_bool, t1, t2, t3, t4, h1, h2, h3, h4]
  | true =>
    obtain ⟨hg, ho, hp⟩ := cmp_ok hok
    have hla : Len a := by have := ho.2.1; unfold Len; omega
    have h5 := w_equal hla b z1 z2 e1 e2
    have h6 := w_more hg z z1 z2 e e1 e2 ho hp ha
    have h7 := w_more hg z z2 z1 e e2 e1 hp ho hb
    have hv : cmpV g a b = if a = b then 1 else if moreB g a b then 2 else if moreB g b a then 0 else 3 := by rw [cmpV, if_neg (by simp [hok])]
    rw [hv]
    have tail : ∃ (w51 : Bool) (w52 w53 : D), C 31 [iS z1 a e1, iS z2 b e2] = some (iB w51, [.d w52, .d w53]) ∧ condW w51 ((some ((IV.tup [iI 1, iI 0], [iG z g e, iS z1 a e1, iS z2 b e2])) : Option (IV × List IV)) = some (.tup [iI (if a = b then 1 else if moreB g a b then 2 else if moreB g b a then 0 else 3), iI 0], [iG z g e, iS z1 a e1, iS z2 b e2])) (∃ (w54 : Bool) (w55 w56 w57 : D), C 32 [iG z g e, iS z1 a e1, iS z2 b e2] = some (iB w54, [.d w55, .d w56, .d w57]) ∧ condW w54 ((some ((IV.tup [iI 2, iI 0], [iG z g e, iS z1 a e1, iS z2 b e2])) : Option (IV × List IV)) = some (.tup [iI (if a = b then 1 else if moreB g a b then 2 else if moreB g b a then 0 else 3), iI 0], [iG z g e, iS z1 a e1, iS z2 b e2])) (∃ (w58 : Bool) (w59 w60 w61 : D), C 32 [iG z g e, iS z2 b e2, iS z1 a e1] = some (iB w58, [.d w59, .d w60, .d w61]) ∧ condW w58 ((some ((IV.tup [iI 0, iI 0], [iG z g e, iS z1 a e1, iS z2 b e2])) : Option (IV × List IV)) = some (.tup [iI (if a = b then 1 else if moreB g a b then 2 else if moreB g b a then 0 else 3), iI 0], [iG z g e, iS z1 a e1, iS z2 b e2])) ((some ((IV.tup [iI 3, iI 0], [iG z g e, iS z1 a e1, iS z2 b e2])) : Option (IV × List IV)) = some (.tup [iI (if a = b then 1 else if moreB g a b then 2 else if moreB g b a then 0 else 3), iI 0], [iG z g e, iS z1 a e1, iS z2 b e2])))) := by
      refine ⟨_, _, _, h5, ?_⟩
      by_cases hab : a = b
      · rw [decide_eq_true hab, if_pos hab]; rfl
      rw [decide_eq_false hab, condW_ff, if_neg hab]
      refine ⟨_, _, _, _, h6, ?_⟩
      cases hm : moreB g a b
      · rw [condW_ff]
        refine ⟨_, _, _, _, h7, ?_⟩
        cases hm2 : moreB g b a <;> rfl
      · rfl
    unfold cmpOk at hok
    cases h1 : oneB g a <;> cases h2 : oneB g b <;> cases h3 : atomB g a <;> cases h4 : atomB g b <;> simp [h1, h2, h3, h4] at hok <;> (rw [h1] at t1; rw [h2] at t2; rw [h3] at t3; rw [h4] at t4)
    all_goals first
      | exact ⟨_, _, _, t1, condW_t rfl ⟨_, _, _, t2, condW_t rfl ⟨_, _, _, t3, condW_t rfl ⟨_, _, _, t4, condW_t rfl tail⟩⟩⟩⟩
      | exact ⟨_, _, _, t1, condW_t rfl ⟨_, _, _, t2, condW_t rfl ⟨_, _, _, t3, condW_t rfl ⟨_, _, _, t4, condW_f rfl tail⟩⟩⟩⟩
      | exact ⟨_, _, _, t1, condW_t rfl ⟨_, _, _, t2, condW_t rfl ⟨_, _, _, t3, condW_f rfl tail⟩⟩⟩
      | exact ⟨_, _, _, t1, condW_t rfl ⟨_, _, _, t2, condW_f rfl ⟨_, _, _, t3, condW_t rfl ⟨_, _, _, t4, condW_t rfl tail⟩⟩⟩⟩
      | exact ⟨_, _, _, t1, condW_f rfl ⟨_, _, _, t3, condW_t rfl ⟨_, _, _, t4, condW_t rfl tail⟩⟩⟩
theorem w_smore (z z1 z2 : Bool) (g : List Sym) (e e1 e2 : List D) (a b : List Int) (ha : z1 = true → a = []) (hb : z2 = true → b = []) :
    C 38 [iG z g e, iS z1 a e1, iS z2 b e2] = some (iB (cmpOk g a b && decide (cmpV g a b = 2)), [iG z g e, iS z1 a e1, iS z2 b e2]) := by
  refine wfn (lk := []) rfl rfl (fnW_way (q38 _ _ z (syms g) e z1 (ints a) e1 z2 (ints b) e2 _) ?_)
  refine ⟨_, _, _, _, _, w_compare z z1 z2 g e e1 e2 a b ha hb, ?_⟩
  cases h : cmpOk g a b
  · rfl
  · by_cases h2 : cmpV g a b = 2
    · rw [h2]; rfl
    · rw [decide_eq_false h2]
      refine condW_t rfl (condW_f (by simpa using h2) rfl)
def ruB (g : List Sym) (a b : List Int) : Bool := oneB g a && (oneB g b && (cmpOk g a b && decide (cmpV g a b = 2)))
theorem w_rewritemay (z z1 z2 : Bool) (g : List Sym) (e e1 e2 : List D) (a b : List Int) (ha : z1 = true → a = []) (hb : z2 = true → b = []) :
    C 26 [iG z g e, .d (.agg [.sl 1 z1 (ints a) e1, .sl 1 z2 (ints b) e2])] = some (iB (ruB g a b), [iG z g e, .d (.agg [.sl 1 z1 (ints a) e1, .sl 1 z2 (ints b) e2])]) := by
  refine wfn (lk := []) rfl rfl (fnW_way (q26 _ _ z (syms g) e z1 (ints a) e1 z2 (ints b) e2 _) ?_)
  refine ⟨_, _, _, w_isterm z z1 g e e1 a, ?_⟩
  unfold ruB
  cases h1 : oneB g a
  · rfl
  refine ⟨_, _, _, w_isterm z z2 g e e2 b, ?_⟩
  cases h2 : oneB g b
  · rfl
  refine ⟨_, _, _, _, w_smore z z1 z2 g e e1 e2 a b ha hb, ?_⟩
  cases h3 : (cmpOk g a b && decide (cmpV g a b = 2)) <;> rfl
theorem ru_more {g : List Sym} {a b : List Int} (h : ruB g a b = true) : SigOk g ∧ One g a ∧ One g b ∧ a.length ≤ 48 ∧ b.length ≤ 48 ∧ More g a b := by
  unfold ruB at h
  simp only [Bool.and_eq_true, decide_eq_true_eq] at h
  obtain ⟨h1, h2, h3, h4⟩ := h
  obtain ⟨a1, a2, a3⟩ := one_lenN h1
  obtain ⟨b1, b2, b3⟩ := one_lenN h2
  refine ⟨sigOk a1, a3, b3, a2, b2, ?_⟩
  rw [cmpV, if_neg (by simp [h3])] at h4
  split at h4
  · cases h4
  · split at h4
    · rename_i hm; exact more_of hm
    · split at h4 <;> cases h4
end Go.Proofs.YtmldmhbdeejcnaaDoor.Ab

/- A row that is rewritten: what the program's functions hand back. For every input; no condition. -/
set_option linter.unusedVariables false
set_option linter.unusedSimpArgs false
set_option maxRecDepth 100000
namespace Go.Proofs.YtmldmhbdeejcnaaDoor.Ab
open Go Go.Ab Go.Qu Go.Proofs
attribute [local simp] and_assoc
theorem w_on48 {s : List Bd} (hs : ∀ v, (findB s v).l.length ≤ 48) (hl : LenB s) {r : List Int} (hr : r.length ≤ 1000) (hc : ∀ c ∈ r, -1000000 ≤ c ∧ c ≤ 1000000) (z z' : Bool) (e e' : List D) : C 59 [iBd z s e, iS z' r e'] = some (.own (onB s r).isEmpty 3 1 (ints (onB s r)), [iBd z s e, iS z' r e']) := by
  refine wfn (lk := []) rfl rfl (fnW_way (q59 _ _ z (bds s) e z' (ints r) e' _) ?_)
  have h1 := fun x hx => blk_fun (F := F) (d := d59) (lk := []) (p := [1,1,0,1,0,0]) (p0 := [1,1,0,1]) (id := 0) (by kernel_rfl) (st := fun (x : List Int × Nat) => [(0, iBd z s e), (5, .own x.1.isEmpty 3 1 (ints x.1)), (9, iS z' r e'), (10, iI r.length), (11, iI x.2)]) (I := fun x => x.2 ≤ r.length ∧ x.1.length ≤ 48 * x.2) (μ := fun x => r.length - x.2)
    (res := fun x => .norm [(0, iBd z s e), (5, .own (x.1 ++ onB s (r.drop x.2)).isEmpty 3 1 (ints (x.1 ++ onB s (r.drop x.2)))), (9, iS z' r e'), (10, iI r.length), (11, iI r.length)])
    (fun x hx => by
      obtain ⟨acc, i⟩ := x
      obtain ⟨hx1, hx2⟩ := hx
      dsimp only at hx1 hx2
      by_cases hi : i < r.length
      · have hci := hc _ (gi_mem hi)
        have hi' : (i : Int) < (r.length : Int) := by omega
        have hi0 : (0 : Int) ≤ (i : Int) := by omega
        have hw : IntKind.wrap .i64 (-1 - gi r i) = -1 - gi r i := wr _ (by omega) (by omega)
        have hnu := w_number (gi r i)
        rw [hw] at hnu
        have hf := w_bfind hl z e (-1 - gi r i)
        have hcl : (onC s (gi r i)).length ≤ 48 := by
          unfold onC
          split
          · simp
          · split
            · simp
            · exact hs _
        refine .go (acc ++ onC s (gi r i), i + 1) (wpQ_way (q59_l0a _ _ z (bds s) e _ (ints acc) z' (ints r) e' _ i _) ?_) ⟨by dsimp only; omega, by simp; omega⟩ (by dsimp only; omega) ?_
        · rw [condW_d, if_pos hi', condW_d, if_pos hi0, Int.toNat_natCast]
          refine ⟨_, Go.Ab.ints_at hi, _, _, hnu, _, _, _, _, _, hf, ?_⟩
          rw [wr1 hi (by omega), ints_len, condW_d]
          have n1 : acc.length + (0 + 1) ≤ 9223372036854775807 := by omega
          have n2 : (acc.length + (0 + 1)) * 8 ≤ 140737488355328 := by omega
          have h1c : ∀ c : Int, onC s (gi r i) = [c] → Out.norm [(0, iBd z s e), (5, IV.own (acc.isEmpty && false) 3 1 (ints acc ++ [D.int .i64 c])), (9, iS z' r e'), (10, iI r.length), (11, iI (i + 1 : Nat))] = Out.norm [(0, iBd z s e), (5, .own (acc ++ onC s (gi r i)).isEmpty 3 1 (ints (acc ++ onC s (gi r i)))), (9, iS z' r e'), (10, iI r.length), (11, iI (i + 1 : Nat))] := fun c h => by
            rw [h]; simp [ints_append, ints_cons, ints_nil]
          by_cases h0 : 0 ≤ gi r i
          · rw [if_pos h0, condW_d, if_pos n1, condW_d, if_pos n2]
            exact h1c _ (by rw [onC, if_pos h0])
          · rw [if_neg h0]
            cases hz : (findB s (-1 - gi r i)).z
            · have hl1 := hs (-1 - gi r i)
              rw [condW_ff, ints_len, condW_d, if_pos (by omega), condW_d, if_pos (by omega)]
              have hon : onC s (gi r i) = (findB s (-1 - gi r i)).l := by rw [onC, if_neg h0, if_neg (by simp [hz])]
              rw [hon]
              cases hfl : (findB s (-1 - gi r i)).l <;> simp [ints_append, ints_nil, ints_cons]
            · rw [condW_tt, condW_d, if_pos n1, condW_d, if_pos n2]
              exact h1c _ (by rw [onC, if_neg h0, if_pos hz])
        · dsimp only
          rw [gi_drop hi, onB, List.append_assoc]
      · have e1 : i = r.length := by omega
        subst e1
        refine .stop (.exit 0 [(0, iBd z s e), (5, .own acc.isEmpty 3 1 (ints acc)), (9, iS z' r e'), (10, iI r.length), (11, iI r.length)]) (wpQ_way (q59_l0a _ _ z (bds s) e _ (ints acc) z' (ints r) e' _ r.length _) (by simp)) rfl ?_
        simp [blkO, onB]) x hx
  have h2 : evP F (Go.Ab.W F) (JW F d59 []) d59 [] [1,1,0,1] [(0, iBd z s e), (5, .own true 3 1 []), (9, iS z' r e'), (10, iI r.length), (11, iI 0)] = _ := h1 ([], 0) ⟨Nat.zero_le _, Nat.zero_le _⟩
  rw [List.drop_zero, List.nil_append] at h2
  rw [ints_len]
  exact ⟨_, _, _, _, _, _, _, _, _, _, h2, rfl⟩
theorem w_growI (n : Nat) (hn : n ≤ 1000000) : C 81 [.d (.sl 1 true [] []), iI n] = some (.own (decide ((n : Int) = 0)) 3 1 [], [.d (.sl 1 true [] []), iI n]) := by
  refine W_prim (p := growP 3 1) rfl ?_
  unfold growP
  dsimp only
  rw [if_pos ⟨by omega, by omega⟩]

theorem ints_empty (a : List Int) : (ints a).isEmpty = a.isEmpty := by cases a <;> rfl
/-- The three parts of a row, and how long the first ones are. -/
def c3 (a b c : List Int) (i : Nat) : List Int := if i = 0 then [] else if i = 1 then a else if i = 2 then a ++ b else a ++ b ++ c
abbrev D3 (z1 z2 z3 : Bool) (a b c : List Int) (e1 e2 e3 : List D) : IV := .d (.sl 1 false [.sl 1 z1 (ints a) e1, .sl 1 z2 (ints b) e2, .sl 1 z3 (ints c) e3] [])
theorem w_concat3 {a b c : List Int} (ha : a.length ≤ 1000) (hb : b.length ≤ 10000) (hc : c.length ≤ 1000) (z1 z2 z3 : Bool) (e1 e2 e3 : List D) : C 58 [D3 z1 z2 z3 a b c e1 e2 e3] = some (.own (decide (((a ++ (b ++ c)).length : Int) = 0)) 3 1 (ints (a ++ (b ++ c))), [D3 z1 z2 z3 a b c e1 e2 e3]) := by
  refine wfn (lk := []) rfl rfl (fnW_way (q58 _ _ false [.sl 1 z1 (ints a) e1, .sl 1 z2 (ints b) e2, .sl 1 z3 (ints c) e3] [] _) ?_)
  have h1 := blk_fun (F := F) (d := d58) (lk := []) (p := [1,1,0,1,0,0]) (p0 := [1,1,0,1]) (id := 0) (by kernel_rfl) (st := fun (i : Nat) => [(0, D3 z1 z2 z3 a b c e1 e2 e3), (3, iI ((c3 a b c i).length : Nat)), (9, D3 z1 z2 z3 a b c e1 e2 e3), (10, iI 3), (11, iI i)]) (I := fun i => i ≤ 3) (μ := fun i => 3 - i)
    (res := fun _ => .norm [(0, D3 z1 z2 z3 a b c e1 e2 e3), (3, iI ((c3 a b c 3).length : Nat)), (9, D3 z1 z2 z3 a b c e1 e2 e3), (10, iI 3), (11, iI 3)])
    (fun i hi => by
      have hw3 : IntKind.wrap .i64 (0 + 1) = 1 := by rw [wr _ (by omega) (by omega)]; omega
      have hw4 : IntKind.wrap .i64 (1 + 1) = 2 := by rw [wr _ (by omega) (by omega)]; omega
      have hw5 : IntKind.wrap .i64 (2 + 1) = 3 := by rw [wr _ (by omega) (by omega)]; omega
      have k0 : (c3 a b c 0).length = 0 := rfl
      have k1 : (c3 a b c 1).length = a.length := rfl
      have k2 : (c3 a b c 2).length = a.length + b.length := by simp [c3]
      have k3 : (c3 a b c 3).length = a.length + b.length + c.length := by simp [c3]; omega
      have h3 : i = 0 ∨ i = 1 ∨ i = 2 ∨ i = 3 := by omega
      rcases h3 with rfl | rfl | rfl | rfl
      · refine .go 1 (wpQ_way (q58_l0a _ _ false [.sl 1 z1 (ints a) e1, .sl 1 z2 (ints b) e2, .sl 1 z3 (ints c) e3] [] _ false [.sl 1 z1 (ints a) e1, .sl 1 z2 (ints b) e2, .sl 1 z3 (ints c) e3] [] 3 0 _) ?_) (by omega) (by omega) rfl
        refine condW_t (by decide) (condW_t (by decide) ⟨_, _, _, rfl, ?_⟩)
        have hw : IntKind.wrap .i64 (((c3 a b c 0).length : Nat) + ((ints a).length : Int)) = ((c3 a b c 1).length : Int) := by rw [ints_len, k0, k1, wr _ (by omega) (by omega)]; omega
        rw [hw, hw3]
        exact condW_f (decide_eq_false (by omega)) rfl
      · refine .go 2 (wpQ_way (q58_l0a _ _ false [.sl 1 z1 (ints a) e1, .sl 1 z2 (ints b) e2, .sl 1 z3 (ints c) e3] [] _ false [.sl 1 z1 (ints a) e1, .sl 1 z2 (ints b) e2, .sl 1 z3 (ints c) e3] [] 3 1 _) ?_) (by omega) (by omega) rfl
        refine condW_t (by decide) (condW_t (by decide) ⟨_, _, _, rfl, ?_⟩)
        have hw : IntKind.wrap .i64 (((c3 a b c 1).length : Nat) + ((ints b).length : Int)) = ((c3 a b c 2).length : Int) := by rw [ints_len, k1, k2, wr _ (by omega) (by omega)]; omega
        rw [hw, hw4]
        exact condW_f (decide_eq_false (by omega)) rfl
      · refine .go 3 (wpQ_way (q58_l0a _ _ false [.sl 1 z1 (ints a) e1, .sl 1 z2 (ints b) e2, .sl 1 z3 (ints c) e3] [] _ false [.sl 1 z1 (ints a) e1, .sl 1 z2 (ints b) e2, .sl 1 z3 (ints c) e3] [] 3 2 _) ?_) (by omega) (by omega) rfl
        refine condW_t (by decide) (condW_t (by decide) ⟨_, _, _, rfl, ?_⟩)
        have hw : IntKind.wrap .i64 (((c3 a b c 2).length : Nat) + ((ints c).length : Int)) = ((c3 a b c 3).length : Int) := by rw [ints_len, k2, k3, wr _ (by omega) (by omega)]; omega
        rw [hw, hw5]
        exact condW_f (decide_eq_false (by omega)) rfl
      · exact .stop (.exit 0 [(0, D3 z1 z2 z3 a b c e1 e2 e3), (3, iI ((c3 a b c 3).length : Nat)), (9, D3 z1 z2 z3 a b c e1 e2 e3), (10, iI 3), (11, iI 3)]) (wpQ_way (q58_l0a _ _ false [.sl 1 z1 (ints a) e1, .sl 1 z2 (ints b) e2, .sl 1 z3 (ints c) e3] [] _ false [.sl 1 z1 (ints a) e1, .sl 1 z2 (ints b) e2, .sl 1 z3 (ints c) e3] [] 3 3 _) (condW_f (by decide) rfl)) rfl rfl) 0 (Nat.zero_le _)
  have k3 : c3 a b c 3 = a ++ (b ++ c) := by simp [c3]
  have hlen : (a ++ (b ++ c)).length = a.length + (b.length + c.length) := by simp
  have hg := w_growI (a ++ (b ++ c)).length (by omega)
  rw [← k3] at hlen hg ⊢
  generalize hzf : decide (((c3 a b c 3).length : Int) = 0) = zf at hg ⊢
  have hz : ∀ t : List Int, t.length ≤ (c3 a b c 3).length → (zf && (ints t).isEmpty) = zf := fun t ht => by
    rw [← hzf, ints_empty]
    by_cases h0 : (c3 a b c 3).length = 0
    · have : t = [] := List.length_eq_zero_iff.1 (by omega)
      subst this; simp
    · have : ¬ ((c3 a b c 3).length : Int) = 0 := by omega
      rw [decide_eq_false this]; rfl
  have h2 := blk_fun (F := F) (d := d58) (lk := []) (p := [1,1,1,1,0,1,0,0]) (p0 := [1,1,1,1,0,1]) (id := 2) (by kernel_rfl) (st := fun (i : Nat) => [(6, .own zf 3 1 (ints (c3 a b c i))), (25, D3 z1 z2 z3 a b c e1 e2 e3), (26, iI 3), (27, iI i)]) (I := fun i => i ≤ 3) (μ := fun i => 3 - i)
    (res := fun _ => .norm [(6, .own zf 3 1 (ints (c3 a b c 3))), (25, D3 z1 z2 z3 a b c e1 e2 e3), (26, iI 3), (27, iI 3)])
    (fun i hi => by
      have hw3 : IntKind.wrap .i64 (0 + 1) = 1 := by rw [wr _ (by omega) (by omega)]; omega
      have hw4 : IntKind.wrap .i64 (1 + 1) = 2 := by rw [wr _ (by omega) (by omega)]; omega
      have hw5 : IntKind.wrap .i64 (2 + 1) = 3 := by rw [wr _ (by omega) (by omega)]; omega
      have k0 : c3 a b c 0 = [] := rfl
      have k1 : c3 a b c 1 = a := rfl
      have k2 : c3 a b c 2 = a ++ b := rfl
      have j1 : ints (c3 a b c 0) ++ ints a = ints (c3 a b c 1) := rfl
      have j2 : ints (c3 a b c 1) ++ ints b = ints (c3 a b c 2) := by rw [k1, k2, ints_append]
      have j3 : ints (c3 a b c 2) ++ ints c = ints (c3 a b c 3) := by rw [k2, k3, ints_append, ints_append, ints_append, List.append_assoc]
      have l1 : (c3 a b c 1).length = a.length := rfl
      have l2 : (c3 a b c 2).length = a.length + b.length := by simp [c3]
      have h3 : i = 0 ∨ i = 1 ∨ i = 2 ∨ i = 3 := by omega
      rcases h3 with rfl | rfl | rfl | rfl
      · refine .go 1 (wpQ_way (q58_l2a _ _ zf (ints (c3 a b c 0)) false [.sl 1 z1 (ints a) e1, .sl 1 z2 (ints b) e2, .sl 1 z3 (ints c) e3] [] 3 0 _) ?_) (by omega) (by omega) rfl
        refine condW_t (by decide) (condW_t (by decide) ⟨_, _, _, rfl, condW_t (by rw [k0]; simp [ints_len, ints_nil]; omega) (condW_t (by rw [k0]; simp [ints_len, ints_nil]; omega) ?_)⟩)
        rw [hz a (by omega), hw3, j1]; rfl
      · refine .go 2 (wpQ_way (q58_l2a _ _ zf (ints (c3 a b c 1)) false [.sl 1 z1 (ints a) e1, .sl 1 z2 (ints b) e2, .sl 1 z3 (ints c) e3] [] 3 1 _) ?_) (by omega) (by omega) rfl
        refine condW_t (by decide) (condW_t (by decide) ⟨_, _, _, rfl, condW_t (by simp [ints_len, l1]; omega) (condW_t (by simp [ints_len, l1]; omega) ?_)⟩)
        rw [hz b (by omega), hw4, j2]; rfl
      · refine .go 3 (wpQ_way (q58_l2a _ _ zf (ints (c3 a b c 2)) false [.sl 1 z1 (ints a) e1, .sl 1 z2 (ints b) e2, .sl 1 z3 (ints c) e3] [] 3 2 _) ?_) (by omega) (by omega) rfl
        refine condW_t (by decide) (condW_t (by decide) ⟨_, _, _, rfl, condW_t (by simp [ints_len, l2]; omega) (condW_t (by simp [ints_len, l2]; omega) ?_)⟩)
        rw [hz c (by omega), hw5, j3]; rfl
      · exact .stop (.exit 2 [(6, .own zf 3 1 (ints (c3 a b c 3))), (25, D3 z1 z2 z3 a b c e1 e2 e3), (26, iI 3), (27, iI 3)]) (wpQ_way (q58_l2a _ _ zf (ints (c3 a b c 3)) false [.sl 1 z1 (ints a) e1, .sl 1 z2 (ints b) e2, .sl 1 z3 (ints c) e3] [] 3 3 _) (condW_f (by decide) rfl)) rfl rfl) 0 (Nat.zero_le _)
  exact ⟨_, _, _, _, _, _, _, _, _, h1, _, _, _, _, hg, _, _, _, _, _, _, _, h2, rfl⟩
/-! ### The binds as a list -/
theorem listF_drop (u : Bs) {i : Nat} (hi : i < 24) : listF u (24 - i) i = (match u i with | none => [] | some t => if t = [-1 - (i : Int)] then [] else [⟨i, ⟨false, t, []⟩⟩]) ++ listF u (24 - (i + 1)) (i + 1) := by
  rw [show 24 - i = (24 - (i + 1)) + 1 by omega, listF]
  all_goals (cases u i <;> rfl)
theorem l_mlist {u : Bs} (hu : ∀ v t, u v = some t → 1 ≤ t.length ∧ t.length ≤ 1000) (x : List Bd × Nat) (hx : x.2 ≤ 24 ∧ x.1.length ≤ x.2 ∧ x.1 ++ listF u (24 - x.2) x.2 = listF u 24 0) :
    evP F (Go.Ab.W F) (JW F d46 [0]) d46 [0] [1,1,0,1] [(0, bM u), (3, .own x.1.isEmpty 107 2 (bds x.1)), (8, iI x.2), (2006038, .dead)] = some (.norm [(0, bM u), (3, .own (listF u 24 0).isEmpty 107 2 (bds (listF u 24 0))), (8, iI (24 : Nat)), (2006038, .dead)]) :=
  blk_fun (F := F) (d := d46) (lk := [0]) (p := [1,1,0,1,0,0]) (p0 := [1,1,0,1]) (id := 0) (by kernel_rfl) (st := fun (x : List Bd × Nat) => [(0, bM u), (3, .own x.1.isEmpty 107 2 (bds x.1)), (8, iI x.2), (2006038, .dead)]) (I := fun x => x.2 ≤ 24 ∧ x.1.length ≤ x.2 ∧ x.1 ++ listF u (24 - x.2) x.2 = listF u 24 0) (μ := fun x => 24 - x.2)
    (res := fun _ => .norm [(0, bM u), (3, .own (listF u 24 0).isEmpty 107 2 (bds (listF u 24 0))), (8, iI (24 : Nat)), (2006038, .dead)])
    (fun x hx => by
      obtain ⟨out, i⟩ := x
      obtain ⟨h1, h2, h3⟩ := hx
      dsimp only at h1 h2 h3
      by_cases hi : i < 24
      rotate_left
      · have e0 : i = 24 := by omega
        have hi' : ¬ (i : Int) < 24 := by omega
        refine .stop (.exit 0 [(0, bM u), (3, .own out.isEmpty 107 2 (bds out)), (8, iI i), (2006038, .dead)]) (wpQ_way (q46_l0a _ _ (bsD u) out.isEmpty (bds out) i _) ?_) rfl ?_
        · rw [condW_d, if_neg hi']
        · rw [show 24 - i = 0 by omega, listF, List.append_nil] at h3
          rw [h3, e0]; rfl
      have hi' : (i : Int) < 24 := by omega
      have hat := bsD_at u hi
      have hw1 := wr1 hi (show 24 ≤ 9223372036854775807 by omega)
      have hnu := w_number (i : Int)
      have hwn : IntKind.wrap .i64 (-1 - (i : Int)) = -1 - (i : Int) := wr _ (by omega) (by omega)
      rw [hwn] at hnu
      rw [listF_drop u hi] at h3
      have hl := bds_len out
      have n1 : out.length + (0 + 1) ≤ 9223372036854775807 := by omega
      have n2 : (out.length + (0 + 1)) * 32 ≤ 140737488355328 := by omega
      have n1' : out.length + 1 ≤ 9223372036854775807 := by omega
      have n2' : (out.length + 1) * 32 ≤ 140737488355328 := by omega
      cases hq : u i with
      | none =>
        rw [hq] at hat h3
        refine .go (out, i + 1) (wpQ_way (q46_l0a _ _ (bsD u) out.isEmpty (bds out) i _) ?_) ⟨by dsimp only; omega, by dsimp only; omega, by simpa using h3⟩ (by dsimp only; omega) rfl
        simp [-Bool.exists_bool, -getElem?_pos, -Int.natCast_add, hi', hat, hw1]
      | some t =>
        rw [hq] at hat h3
        have ht := hu i t hq
        have hlt : Len t := by unfold Len; omega
        have hcl := w_clone hlt false (by simp) []
        by_cases h0 : t = [-1 - (i : Int)]
        · dsimp only at h3
          rw [if_pos h0] at h3
          subst h0
          refine .go (out, i + 1) (wpQ_way (q46_l0a _ _ (bsD u) out.isEmpty (bds out) i _) ?_) ⟨by dsimp only; omega, by dsimp only; omega, by simpa using h3⟩ (by dsimp only; omega) rfl
          simp [-Bool.exists_bool, -getElem?_pos, -Int.natCast_add, List.getElem?_cons_zero, hi', hat, hw1, ints_len, ints_cons, ints_nil, hnu]
        · dsimp only at h3
          rw [if_neg h0] at h3
          refine .go (out ++ [⟨i, ⟨false, t, []⟩⟩], i + 1) (wpQ_way (q46_l0a _ _ (bsD u) out.isEmpty (bds out) i _) ?_) ⟨by dsimp only; omega, by simp; omega, by simpa using h3⟩ (by dsimp only; omega) rfl
          have hem : (out ++ [(⟨i, ⟨false, t, []⟩⟩ : Bd)]).isEmpty = false := by simp
          have hbd : bds (out ++ [(⟨i, ⟨false, t, []⟩⟩ : Bd)]) = bds out ++ [.agg [.int .i64 i, .sl 1 false (ints t) []]] := by simp [bds, Bd.d]
          dsimp only
          rw [hem, hbd]
          cases t with
          | nil => simp at ht
          | cons c t =>
            by_cases ht1 : t = []
            · subst ht1
              have hne : ¬ c = -1 - (i : Int) := fun e => h0 (by rw [e])
              rw [ints_cons, ints_nil] at hcl
              simp [-Bool.exists_bool, -getElem?_pos, -Int.natCast_add, List.getElem?_cons_zero, hi', hat, hw1, ints_len, ints_cons, ints_nil, hnu, hne, hl, n1', n2']
              exact ⟨_, hcl⟩
            · have hlen : 0 < t.length := List.length_pos_iff.2 ht1
              have hlen2 : ((1 : Int) < ((c :: t).length : Nat)) := by simp; omega
              simp [-Bool.exists_bool, -getElem?_pos, -Int.natCast_add, -List.length_cons, hi', hat, hw1, ints_len, hlen2, hl, n1', n2', hcl]) x hx
theorem w_mlist {u : Bs} (hu : ∀ v t, u v = some t → 1 ≤ t.length ∧ t.length ≤ 1000) : C 46 [bM u] = some (.own (listF u 24 0).isEmpty 107 2 (bds (listF u 24 0)), [bM u]) := by
  refine wfn (lk := [0]) rfl rfl (fnW_way (q46 _ _ (bsD u) _) ?_)
  have h1 := l_mlist hu ([], 0) ⟨Nat.zero_le _, Nat.zero_le _, rfl⟩
  exact ⟨_, _, _, _, h1, rfl⟩
end Go.Proofs.YtmldmhbdeejcnaaDoor.Ab

/- A row that is rewritten: what Rewrite and Match hand back. For every input; no condition. -/
set_option linter.unusedVariables false
set_option linter.unusedSimpArgs false
set_option maxRecDepth 100000
namespace Go.Proofs.YtmldmhbdeejcnaaDoor.Ab
open Go Go.Ab Go.Qu Go.Proofs
attribute [local simp] and_assoc
theorem grow_to {g : List Sym} {s u : Bs} {a b : List Int} (h : growF g s a b = some u) : (growL g s a b).1 = u := by
  rw [grow_L] at h
  rcases hg : growL g s a b with ⟨v, q⟩
  rw [hg] at h
  match q, h with
  | some [], h => exact Option.some.inj h
/-- The table of nothing. -/
abbrev bN : IV := bM (fun _ => none)
theorem bN_eq : (IV.dbox 80 0 [D.sl 1 true [] [], D.sl 1 true [] [], D.sl 1 true [] [], D.sl 1 true [] [], D.sl 1 true [] [], D.sl 1 true [] [], D.sl 1 true [] [], D.sl 1 true [] [], D.sl 1 true [] [], D.sl 1 true [] [], D.sl 1 true [] [], D.sl 1 true [] [], D.sl 1 true [] [], D.sl 1 true [] [], D.sl 1 true [] [], D.sl 1 true [] [], D.sl 1 true [] [], D.sl 1 true [] [], D.sl 1 true [] [], D.sl 1 true [] [], D.sl 1 true [] [], D.sl 1 true [] [], D.sl 1 true [] [], D.sl 1 true [] []]) = bN := rfl
theorem list_ok {g : List Sym} {L t : List Int} {u : Bs} (h : growF g (fun _ => none) L t = some u) {n : Nat} (hn : t.length ≤ n) : ∀ v s, u v = some s → 1 ≤ s.length ∧ s.length ≤ n := by
  intro v s e
  obtain ⟨_, _, h3, _⟩ := grow_sound h
  refine ⟨?_, ?_⟩
  · rcases h3 v s e with h5 | h5
    · cases h5
    · exact (lenN_le h5).2
  · rcases grow_len h v s e with h5 | h5
    · cases h5
    · omega
theorem on_len48 {s : List Bd} (hs : ∀ v, (findB s v).l.length ≤ 48) : ∀ (r : List Int), (onB s r).length ≤ 48 * r.length
  | [] => by simp [onB]
  | c :: r => by
    have ih := on_len48 hs r
    have hcl : (onC s c).length ≤ 48 := by
      unfold onC
      split
      · simp
      · split
        · simp
        · exact hs _
    rw [onB, List.length_append, List.length_cons]; omega
section
variable {g : List Sym} (hg : SigOk g) (z zL zR : Bool) (e eL eR : List D) {L R : List Int} (hL : One g L) (hR : One g R) (hL48 : L.length ≤ 48) (hR48 : R.length ≤ 48)
include hg hL hR hL48 hR48
theorem hit_calls {out : List Int} (ho : out.length ≤ 48) {i k : Nat} (hk : lenN g (out.drop i) 1 = some k) :
    (hitF g L R out i = none → ∃ u0 : Bs, C 45 [bN, iG z g e, iS zL L eL, iS false ((out.drop i).take k) []] = some (iB false, [bM u0, iG z g e, iS zL L eL, iS false ((out.drop i).take k) []])) ∧
    (∀ o, hitF g L R out i = some o → ∃ (u : Bs) (lz oz : Bool) (on : List Int), C 45 [bN, iG z g e, iS zL L eL, iS false ((out.drop i).take k) []] = some (iB true, [bM u, iG z g e, iS zL L eL, iS false ((out.drop i).take k) []]) ∧
      C 46 [bM u] = some (.own lz 107 2 (bds (listF u 24 0)), [bM u]) ∧
      C 59 [.d (.sl 2 lz (bds (listF u 24 0)) []), iS zR R eR] = some (.own oz 3 1 (ints on), [.d (.sl 2 lz (bds (listF u 24 0)) []), iS zR R eR]) ∧
      C 58 [D3 false oz false (out.take i) on (out.drop (i + k)) [] [] []] = some (.own false 3 1 (ints o), [D3 false oz false (out.take i) on (out.drop (i + k)) [] [] []])) := by
  have hle := lenN_le hk
  simp only [List.length_drop] at hle
  have hgr := w_mgrow hg z zL false e eL [] (a := L) (b := (out.drop i).take k) (by omega) (by simp; omega) (by simp) (one_24 hL) (s := fun _ => none) (fun v t h => by cases h)
  refine ⟨fun h => ?_, fun o h => ?_⟩
  · unfold hitF at h
    rw [hk] at h
    dsimp only at h
    cases hu : growF g (fun _ => none) L ((out.drop i).take k) with
    | none => rw [hu] at hgr; exact ⟨_, hgr⟩
    | some u => rw [hu] at h; cases h
  · unfold hitF at h
    rw [hk] at h
    dsimp only at h
    cases hu : growF g (fun _ => none) L ((out.drop i).take k) with
    | none => rw [hu] at h; cases h
    | some u =>
      rw [hu] at h hgr
      simp only [Option.some.injEq] at h
      rw [grow_to hu] at hgr
      have hok := list_ok hu (n := 48) (by simp; omega)
      have h48 := list_le (u := u) (n := 48) (fun v t h => (hok v t h).2)
      have hml := w_mlist (u := u) (fun v t h => by have := hok v t h; omega)
      have hon := w_on48 h48 (show LenB (listF u 24 0) by have := listF_len u 24 0; unfold LenB; omega) (r := R) (by omega) (fun c hc => by
        have h1 := one_24 hR c hc
        have h2 := (one_codes hR).2 c hc
        have h3 := hg.hi
        omega) (listF u 24 0).isEmpty zR [] eR
      have hol := on_len48 h48 R
      have hcc := w_concat3 (a := out.take i) (b := onB (listF u 24 0) R) (c := out.drop (i + k)) (by simp; omega) (by omega) (by simp; omega) false (onB (listF u 24 0) R).isEmpty false [] [] []
      refine ⟨u, _, _, _, hgr, hml, hon, ?_⟩
      rw [h] at hcc
      have hpos : 1 ≤ o.length := by
        have h1 := on_list (u := u) (one_24 hR)
        have h2 : 1 ≤ R.length := (lenN_le hR).2
        have h3 : 1 ≤ (onB (listF u 24 0) R).length := by
          cases R with
          | nil => simp at h2
          | cons c R =>
            rw [onB, List.length_append]
            have : 1 ≤ (onC (listF u 24 0) c).length := by
              unfold onC
              split
              · simp
              · rename_i h0
                have h24 := one_24 hR c (by simp)
                have e0 : (-1 - c) = ((vN c : Nat) : Int) := by unfold vN; omega
                have hlt : 0 ≤ vN c ∧ vN c < 0 + 24 := by unfold vN; omega
                have hf := find_listF u 24 0 (vN c)
                rw [if_pos hlt] at hf
                rw [e0, hf]
                cases hv : u (vN c) with
                | none => simp
                | some t =>
                  have := hok _ _ hv
                  dsimp only
                  split
                  · split <;> simp_all
                  · split <;> simp_all
            omega
        rw [← h]; simp; omega
      have : ¬ (o.length : Int) = 0 := by omega
      rw [decide_eq_false this] at hcc
      exact hcc
omit hg hL hR hL48 hR48 in
def postR (x : Option (List Int × Nat)) (o : Out) : Prop := match x with
  | some (y, k) => ∃ zy : Bool, (zy = true → y = []) ∧ o = .ret [(6, iS zy y []), (7, iI k), (8, iB true)]
  | none => o = .ret [(6, iS true [] []), (7, iI 0), (8, iB false)]
theorem l_rewrite (hsub : ∀ c ∈ R, c < 0 → c ∈ L) {n : Nat} : ∀ x : (Bool × List Int) × Nat × Nat, ((x.1.1 = true → x.1.2 = []) ∧ x.1.2.length ≤ 48 ∧ x.2.1 ≤ 100 ∧ x.2.2 ≤ x.1.2.length ∧ lenN g x.1.2 n = some x.1.2.length) →
    ∃ o, evG (JW F d28 []) d28 [1, 0] 0 [(0, iG z g e), (4, .dbox 25 0 [.sl 1 zL (ints L) eL, .sl 1 zR (ints R) eR]), (9, iS x.1.1 x.1.2 []), (10, iI x.2.1), (11, iI x.2.2)] = some o ∧ postR (rwX g L R (x.1.2, x.2.1, x.2.2)) o :=
  label_rule (F := F) (d := d28) (lk := []) (p := [1, 0]) (fun _ => 0) (fun (x : (Bool × List Int) × Nat × Nat) => [(0, iG z g e), (4, .dbox 25 0 [.sl 1 zL (ints L) eL, .sl 1 zR (ints R) eR]), (9, iS x.1.1 x.1.2 []), (10, iI x.2.1), (11, iI x.2.2)]) _ (fun x => (100 - x.2.1) * 50 + (x.1.2.length - x.2.2)) (fun x o => postR (rwX g L R (x.1.2, x.2.1, x.2.2)) o) (fun _ _ => by decide +kernel) (fun x hx => by
    obtain ⟨⟨zo, out⟩, t, i⟩ := x
    obtain ⟨h1, h2, h3, h4, h5⟩ := hx
    dsimp only at h1 h2 h3 h4 h5 ⊢
    by_cases hi : i < out.length
    rotate_left
    · have e0 : i = out.length := by omega
      subst e0
      refine .inr ⟨.ret [(6, iS zo out []), (7, iI t), (8, iB true)], wpR_way (q28_l1000000a _ _ z (syms g) e zL (ints L) eL zR (ints R) eR zo (ints out) [] t out.length _) ?_, rfl, ?_⟩
      · exact condW_t (by rw [ints_len]; simp) rfl
      · rw [rwX_end hi]; exact ⟨zo, h1, rfl⟩
    have hzo : zo = false := by
      cases zo with
      | false => rfl
      | true => have := h1 rfl; subst this; simp at hi
    subst hzo
    obtain ⟨k, hk⟩ := lenN_inner h5 i hi
    have hle := lenN_le hk
    simp only [List.length_drop] at hle
    have hsk := w_skip hg z false e [] (r := out) (by omega) i
    rw [skB, skV, hk] at hsk
    obtain ⟨c1, c2⟩ := hit_calls hg z zL zR e eL eR hL hR hL48 hR48 h2 hk
    have hne : ((i : Int) == ((ints out).length : Int)) = false := by rw [ints_len]; simp; omega
    have hpc : List.drop (Int.toNat (i : Int)) (tkX (Int.toNat ((i + k : Nat) : Int)) (ints out) []) = ints ((out.drop i).take k) := by
      rw [Int.toNat_natCast, Int.toNat_natCast, tkX_ints (by omega), ints_drop, List.drop_take, Nat.add_sub_cancel_left]
    have hpa : tkX (Int.toNat (i : Int)) (ints out) [] = ints (out.take i) := by rw [Int.toNat_natCast, tkX_ints (by omega)]
    have hpz : List.drop (Int.toNat ((i + k : Nat) : Int)) (ints out) = ints (out.drop (i + k)) := by rw [Int.toNat_natCast, ints_drop]
    have b1 : decide ((0 : Int) ≤ (i : Int)) = true := by simp
    have b2 : decide ((i : Int) ≤ ((i + k : Nat) : Int)) = true := by simp; omega
    have b3 : decide (((i + k : Nat) : Int) ≤ (((ints out).length + ([] : List D).length : Nat) : Int)) = true := by rw [ints_len]; simp; omega
    have b4 : decide ((i : Int) ≤ (((ints out).length + ([] : List D).length : Nat) : Int)) = true := by rw [ints_len]; simp; omega
    have b5 : decide ((0 : Int) ≤ ((i + k : Nat) : Int)) = true := by simp; omega
    have b6 : decide (((i + k : Nat) : Int) ≤ ((ints out).length : Int)) = true := by rw [ints_len]; simp; omega
    cases hh : hitF g L R out i with
    | none =>
      obtain ⟨u0, c1⟩ := c1 hh
      refine .inl ⟨((false, out), t, i + 1), wpR_way (q28_l1000000a _ _ z (syms g) e zL (ints L) eL zR (ints R) eR false (ints out) [] t i _) ?_, ⟨h1, h2, h3, hi, h5⟩, by dsimp only; omega, fun o ho => by rw [rwX_no hi h2 h3 hh]; exact ho⟩
      refine condW_f hne ⟨_, _, _, _, _, hsk, condW_t rfl (condW_t b1 (condW_t b2 (condW_t b3 ?_)))⟩
      rw [bN_eq, hpc]
      refine ⟨_, _, _, _, _, c1, condW_f rfl ?_⟩
      rw [wr1 hi (by omega)]
    | some o =>
      obtain ⟨u, lz, oz, on, k1, k2, k3, k4⟩ := c2 o hh
      by_cases ht : t = 100
      · subst ht
        refine .inr ⟨.ret [(6, iS true [] []), (7, iI 0), (8, iB false)], wpR_way (q28_l1000000a _ _ z (syms g) e zL (ints L) eL zR (ints R) eR false (ints out) [] (100 : Nat) i _) ?_, rfl, ?_⟩
        · refine condW_f hne ⟨_, _, _, _, _, hsk, condW_t rfl (condW_t b1 (condW_t b2 (condW_t b3 ?_)))⟩
          rw [bN_eq, hpc]
          exact ⟨_, _, _, _, _, k1, condW_t rfl (condW_t rfl rfl)⟩
        · rw [rwX_yes hi h2 h3 hh, if_pos rfl]; rfl
      have ht2 : ((t : Int) == 100) = false := by simp; omega
      have hol : (ints o).length = o.length := ints_len o
      by_cases hl : 48 < o.length
      · refine .inr ⟨.ret [(6, iS true [] []), (7, iI 0), (8, iB false)], wpR_way (q28_l1000000a _ _ z (syms g) e zL (ints L) eL zR (ints R) eR false (ints out) [] t i _) ?_, rfl, ?_⟩
        · refine condW_f hne ⟨_, _, _, _, _, hsk, condW_t rfl (condW_t b1 (condW_t b2 (condW_t b3 ?_)))⟩
          rw [bN_eq, hpc]
          refine ⟨_, _, _, _, _, k1, condW_t rfl (condW_f ht2 (condW_t b1 (condW_t b4 ⟨_, _, _, k2, _, _, _, _, k3, condW_t b5 (condW_t b6 ?_)⟩)))⟩
          rw [hpa, hpz]
          exact ⟨_, _, _, k4, condW_t (by rw [ints_len]; simp; omega) rfl⟩
        · rw [rwX_yes hi h2 h3 hh, if_neg ht, if_pos hl]; rfl
      · have hstep : lenN g o n = some o.length := by
          obtain ⟨p, s, tt, q, e1, e2, hs, ho, hp⟩ := hit_row hg hL hR hsub hh
          have hs1 := lenN_le hs
          rw [e1] at h5
          obtain ⟨m, _, _, h6⟩ := repl_lenN hs ho h5 (by simp; omega)
          rw [e2, h6]; simp; omega
        refine .inl ⟨((false, o), t + 1, 0), wpR_way (q28_l1000000a _ _ z (syms g) e zL (ints L) eL zR (ints R) eR false (ints out) [] t i _) ?_, ⟨by simp, by dsimp only; omega, by dsimp only; omega, Nat.zero_le _, hstep⟩, by dsimp only; omega, fun o' ho' => by rw [rwX_yes hi h2 h3 hh, if_neg ht, if_neg hl]; exact ho'⟩
        refine condW_f hne ⟨_, _, _, _, _, hsk, condW_t rfl (condW_t b1 (condW_t b2 (condW_t b3 ?_)))⟩
        rw [bN_eq, hpc]
        refine ⟨_, _, _, _, _, k1, condW_t rfl (condW_f ht2 (condW_t b1 (condW_t b4 ⟨_, _, _, k2, _, _, _, _, k3, condW_t b5 (condW_t b6 ?_)⟩)))⟩
        rw [hpa, hpz]
        refine ⟨_, _, _, k4, condW_f (by rw [ints_len]; simp; omega) ?_⟩
        rw [wr1 (show t < 100 by omega) (by omega)]
        rfl)
omit hg hL hR hL48 hR48 in
def postV (x : Option (List Int × Nat)) (v : IV) : Prop := match x with
  | some (y, k) => ∃ zy : Bool, (zy = true → y = []) ∧ v = .tup [iS zy y [], iI k, iB true]
  | none => v = .tup [iS true [] [], iI 0, iB false]
theorem w_rewrite (hsub : ∀ c ∈ R, c < 0 → c ∈ L) {n : Nat} {r : List Int} (hr : r.length ≤ 48) (hn : lenN g r n = some r.length) (zr : Bool) (hz : zr = true → r = []) (er : List D) :
    ∃ v, C 28 [iG z g e, .d (.agg [.sl 1 zL (ints L) eL, .sl 1 zR (ints R) eR]), iS zr r er] = some (v, [iG z g e, .d (.agg [.sl 1 zL (ints L) eL, .sl 1 zR (ints R) eR]), iS zr r er]) ∧ postV (rwX g L R (r, 0, 0)) v := by
  have hcl := w_clone (t := r) (by unfold Len; omega) zr hz er
  by_cases hi : 0 < r.length
  rotate_left
  · have e0 : r = [] := List.length_eq_zero_iff.1 (by omega)
    subst e0
    refine ⟨.tup [iS zr [] [], iI 0, iB true], wfn (lk := []) rfl rfl (fnW_way (q28 _ _ z (syms g) e zL (ints L) eL zR (ints R) eR zr (ints []) er _) ⟨_, _, _, hcl, condW_t rfl rfl⟩), ?_⟩
    rw [rwX_end (by simp)]
    exact ⟨zr, hz, rfl⟩
  have hzo : zr = false := by
    cases zr with
    | false => rfl
    | true => have := hz rfl; subst this; simp at hi
  subst hzo
  have l1 := l_rewrite hg z zL zR e eL eR hL hR hL48 hR48 hsub (n := n)
  obtain ⟨k, hk⟩ := lenN_inner hn 0 hi
  have hle := lenN_le hk
  simp only [List.length_drop] at hle
  have hsk := w_skip hg z false e [] (r := r) (by omega) 0
  rw [skB, skV, hk] at hsk
  dsimp only at hsk
  rw [Nat.zero_add] at hsk
  obtain ⟨c1, c2⟩ := hit_calls hg z zL zR e eL eR hL hR hL48 hR48 hr hk
  have hne : ((0 : Int) == ((ints r).length : Int)) = false := by rw [ints_len]; simp; omega
  have hpc : List.drop (Int.toNat 0) (List.take (Int.toNat ((k : Nat) : Int)) (ints r)) = ints ((r.drop 0).take k) := by
    rw [Int.toNat_natCast, ints_take]; rfl
  have hpz : List.drop (Int.toNat ((k : Nat) : Int)) (ints r) = ints (r.drop (0 + k)) := by rw [Int.toNat_natCast, ints_drop, Nat.zero_add]
  have b1 : decide ((0 : Int) ≤ ((k : Nat) : Int)) = true := by simp
  have b3 : decide (((k : Nat) : Int) ≤ (((ints r).length + 0 : Nat) : Int)) = true := by rw [ints_len]; simp; omega
  have b6 : decide (((k : Nat) : Int) ≤ ((ints r).length : Int)) = true := by rw [ints_len]; simp; omega
  cases hh : hitF g L R r 0 with
  | none =>
    obtain ⟨u0, c1⟩ := c1 hh
    obtain ⟨o, h1, h2⟩ := l1 ((false, r), 0, 1) ⟨by simp, hr, Nat.zero_le _, hi, hn⟩
    rw [rwX_no hi hr (by omega) hh]
    dsimp only at h1 h2
    have key : ∀ v : IV, (∃ (w28 : Bool) (w29 w30 : List D) (w31 : Int) (w32 : Bool), evG (JW F d28 []) d28 [1, 0] 0 [(0, iG z g e), (4, .dbox 25 0 [.sl 1 zL (ints L) eL, .sl 1 zR (ints R) eR]), (9, iS false r []), (10, iI 0), (11, iI 1)] = some (.ret [(6, .d (.sl 1 w28 w29 w30)), (7, iI w31), (8, iB w32)]) ∧ v = .tup [.d (.sl 1 w28 w29 w30), iI w31, iB w32]) → C 28 [iG z g e, .d (.agg [.sl 1 zL (ints L) eL, .sl 1 zR (ints R) eR]), iS false r er] = some (v, [iG z g e, .d (.agg [.sl 1 zL (ints L) eL, .sl 1 zR (ints R) eR]), iS false r er]) := fun v hv => by
      obtain ⟨w28, w29, w30, w31, w32, hv, rfl⟩ := hv
      refine wfn (lk := []) rfl rfl (fnW_way (q28 _ _ z (syms g) e zL (ints L) eL zR (ints R) eR false (ints r) er _) ⟨_, _, _, hcl, condW_f hne ⟨_, _, _, _, _, hsk, condW_t rfl (condW_t b1 (condW_t b3 ?_))⟩⟩)
      rw [bN_eq, hpc]
      exact ⟨_, _, _, _, _, c1, condW_f rfl ⟨_, _, _, _, _, hv, rfl⟩⟩
    cases hx : rwX g L R (r, 0, 0 + 1) with
    | none =>
      rw [hx] at h2
      cases h2
      exact ⟨_, key _ ⟨_, _, _, _, _, h1, rfl⟩, rfl⟩
    | some p =>
      obtain ⟨y, m⟩ := p
      rw [hx] at h2
      obtain ⟨zy, h3, rfl⟩ := h2
      exact ⟨_, key _ ⟨_, _, _, _, _, h1, rfl⟩, zy, h3, rfl⟩
  | some o =>
    obtain ⟨u, lz, oz, on, k1, k2, k3, k4⟩ := c2 o hh
    rw [rwX_yes hi hr (by omega) hh, if_neg (by omega)]
    by_cases hl : 48 < o.length
    · rw [if_pos hl]
      refine ⟨.tup [iS true [] [], iI 0, iB false], wfn (lk := []) rfl rfl (fnW_way (q28 _ _ z (syms g) e zL (ints L) eL zR (ints R) eR false (ints r) er _) ⟨_, _, _, hcl, condW_f hne ⟨_, _, _, _, _, hsk, condW_t rfl (condW_t b1 (condW_t b3 ?_))⟩⟩), rfl⟩
      rw [bN_eq, hpc]
      refine ⟨_, _, _, _, _, k1, condW_t rfl ⟨_, _, _, k2, _, _, _, _, k3, condW_t b1 (condW_t b6 ?_)⟩⟩
      rw [hpz]
      exact ⟨_, _, _, k4, condW_t (by rw [ints_len]; simp; omega) rfl⟩
    · rw [if_neg hl]
      have hstep : lenN g o n = some o.length := by
        obtain ⟨p, s, tt, q, e1, e2, hs, ho, hp⟩ := hit_row hg hL hR hsub hh
        have hs1 := lenN_le hs
        rw [e1] at hn
        obtain ⟨m, _, _, h6⟩ := repl_lenN hs ho hn (by simp; omega)
        rw [e2, h6]; simp; omega
      obtain ⟨o', h1, h2⟩ := l1 ((false, o), 1, 0) ⟨by simp, by dsimp only; omega, show 1 ≤ 100 by omega, Nat.zero_le _, hstep⟩
      dsimp only at h1 h2
      have key : ∀ v : IV, (∃ (w28 : Bool) (w29 w30 : List D) (w31 : Int) (w32 : Bool), evG (JW F d28 []) d28 [1, 0] 0 [(0, iG z g e), (4, .dbox 25 0 [.sl 1 zL (ints L) eL, .sl 1 zR (ints R) eR]), (9, iS false o []), (10, iI 1), (11, iI 0)] = some (.ret [(6, .d (.sl 1 w28 w29 w30)), (7, iI w31), (8, iB w32)]) ∧ v = .tup [.d (.sl 1 w28 w29 w30), iI w31, iB w32]) → C 28 [iG z g e, .d (.agg [.sl 1 zL (ints L) eL, .sl 1 zR (ints R) eR]), iS false r er] = some (v, [iG z g e, .d (.agg [.sl 1 zL (ints L) eL, .sl 1 zR (ints R) eR]), iS false r er]) := fun v hv => by
        obtain ⟨w28, w29, w30, w31, w32, hv, rfl⟩ := hv
        refine wfn (lk := []) rfl rfl (fnW_way (q28 _ _ z (syms g) e zL (ints L) eL zR (ints R) eR false (ints r) er _) ⟨_, _, _, hcl, condW_f hne ⟨_, _, _, _, _, hsk, condW_t rfl (condW_t b1 (condW_t b3 ?_))⟩⟩)
        rw [bN_eq, hpc]
        refine ⟨_, _, _, _, _, k1, condW_t rfl ⟨_, _, _, k2, _, _, _, _, k3, condW_t b1 (condW_t b6 ?_)⟩⟩
        rw [hpz]
        exact ⟨_, _, _, k4, condW_f (by rw [ints_len]; simp; omega) ⟨_, _, _, _, _, hv, rfl⟩⟩
      cases hx : rwX g L R (o, 0 + 1, 0) with
      | none =>
        rw [hx] at h2
        cases h2
        exact ⟨_, key _ ⟨_, _, _, _, _, h1, rfl⟩, rfl⟩
      | some p =>
        obtain ⟨y, m⟩ := p
        rw [hx] at h2
        obtain ⟨zy, h3, rfl⟩ := h2
        exact ⟨_, key _ ⟨_, _, _, _, _, h1, rfl⟩, zy, h3, rfl⟩
end
end Go.Proofs.YtmldmhbdeejcnaaDoor.Ab
