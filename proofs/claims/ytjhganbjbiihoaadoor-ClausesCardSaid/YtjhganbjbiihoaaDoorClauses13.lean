/- Signatures, rows of terms, atoms: what may be, in plain lists. No program in sight; no condition. -/
import Derived.Test.YtjhganbjbiihoaaDoorClauses0
import Derived.Test.YtjhganbjbiihoaaDoorClauses1
import Derived.Test.YtjhganbjbiihoaaDoorClauses2
import Derived.Test.YtjhganbjbiihoaaDoorClauses3
import Derived.Test.YtjhganbjbiihoaaDoorClauses4
import Derived.Test.YtjhganbjbiihoaaDoorClauses5
import Derived.Test.YtjhganbjbiihoaaDoorClauses6
import Derived.Test.YtjhganbjbiihoaaDoorClauses7
import Derived.Test.YtjhganbjbiihoaaDoorClauses8
import Derived.Test.YtjhganbjbiihoaaDoorClauses9
import Derived.Test.YtjhganbjbiihoaaDoorClauses10
import Derived.Test.YtjhganbjbiihoaaDoorClauses11
import Derived.Test.YtjhganbjbiihoaaDoorClauses12
set_option linter.unusedVariables false
set_option linter.unusedSimpArgs false
namespace Go.Qu
open Go Go.Ab

abbrev iI (n : Int) : IV := .d (.int .i64 n)
abbrev iB (b : Bool) : IV := .d (.bool b)
abbrev iS (z : Bool) (l : List Int) (e : List D) : IV := .d (.sl 1 z (ints l) e)

structure Sym where
  name : ByteArray
  kind : Int
  ar : Int
  wt : Int
def Sym.d (s : Sym) : D := .agg [.str s.name, .int .i64 s.kind, .int .i64 s.ar, .int .i64 s.wt]
def syms (l : List Sym) : List D := l.map Sym.d
abbrev iG (z : Bool) (l : List Sym) (e : List D) : IV := .d (.sl 4 z (syms l) e)
theorem syms_len (l : List Sym) : (syms l).length = l.length := by simp [syms]
theorem syms_at {l : List Sym} {i : Nat} {s : Sym} (h : l[i]? = some s) : (syms l)[i]? = some (.agg [.str s.name, .int .i64 s.kind, .int .i64 s.ar, .int .i64 s.wt]) := by
  simp [syms, h, Sym.d]
theorem bytes_len (b : ByteArray) : b.toList.length = b.size := by
  have h : ∀ (k i : Nat) (acc : List UInt8), b.size - i = k → (ByteArray.toList.loop b i acc).length = acc.length + k := by
    intro k
    induction k with
    | zero => intro i acc hk; unfold ByteArray.toList.loop; rw [if_neg (by omega)]; simp
    | succ k ih => intro i acc hk; unfold ByteArray.toList.loop; rw [if_pos (by omega), ih (i + 1) _ (by omega)]; simp; omega
  have := h b.size 0 [] rfl
  unfold ByteArray.toList
  rw [this]; simp
theorem wr1 {i n : Nat} (h : i < n) (hn : n ≤ 9223372036854775807) : IntKind.wrap .i64 ((i : Int) + 1) = ((i + 1 : Nat) : Int) := by
  rw [wr _ (by omega) (by omega)]; omega
theorem at_lt {α : Type} {l : List α} {i : Nat} (h : i < l.length) : ∃ s, l[i]? = some s := ⟨l[i], by simp [h]⟩
theorem lt_at {α : Type} {l : List α} {i : Nat} {s : α} (h : l[i]? = some s) : i < l.length := (List.getElem?_eq_some_iff.1 h).1

def smallB (c : Int) : Bool := decide (97 ≤ c) && decide (c ≤ 122)
def charB (c : Int) : Bool := smallB c || (decide (48 ≤ c) && decide (c ≤ 57))
def nameB (b : ByteArray) : Bool := decide (1 ≤ b.size) && decide (b.size ≤ 8) && smallB (byteAt b 0) && (List.range b.size).all fun i => charB (byteAt b i)
def numsB (s : Sym) : Bool := decide (0 ≤ s.kind) && decide (s.kind ≤ 2) && decide (0 ≤ s.ar) && decide (s.ar ≤ 3) && decide (1 ≤ s.wt) && decide (s.wt ≤ 20)
def symB (s : Sym) : Bool := nameB s.name && numsB s
def isN (n : ByteArray) (s : Sym) : Bool := s.name.toList == n.toList
def findN (l : List Sym) (n : ByteArray) : Int := match l.findIdx? (isN n) with | some i => i | none => -1
def eqSym (s : Sym) : Bool := (s.name.toList == [61]) && (s.kind == 0 && (s.ar == 2 && (s.wt == 1 && true)))
def sigAt (l : List Sym) (i : Nat) : Bool := match l[i]? with | some s => symB s && (findN l s.name == (i : Int)) | none => true
def sigB (l : List Sym) : Bool := decide (1 ≤ l.length) && decide (l.length ≤ 20) && (match l[0]? with | some s => eqSym s | none => false) && (List.range' 1 (l.length - 1)).all (sigAt l)
/-- What may be a signature. -/
structure SigOk (l : List Sym) : Prop where
  lo : 1 ≤ l.length
  hi : l.length ≤ 20
  nums : ∀ (i : Nat) s, l[i]? = some s → 0 ≤ s.kind ∧ s.kind ≤ 2 ∧ 0 ≤ s.ar ∧ s.ar ≤ 3 ∧ 1 ≤ s.wt ∧ s.wt ≤ 20
theorem sigOk {l : List Sym} (h : sigB l = true) : SigOk l := by
  unfold sigB at h
  simp only [Bool.and_eq_true, decide_eq_true_eq] at h
  obtain ⟨⟨⟨h1, h2⟩, h3⟩, h4⟩ := h
  refine ⟨h1, h2, fun i s hs => ?_⟩
  cases i with
  | zero =>
    rw [hs] at h3
    simp only [eqSym, Bool.and_eq_true, beq_iff_eq] at h3
    omega
  | succ i =>
    have hl := lt_at hs
    have h5 := List.all_eq_true.1 h4 (i + 1) (by rw [List.mem_range'_1]; omega)
    unfold sigAt at h5
    rw [hs] at h5
    simp only [symB, numsB, Bool.and_eq_true, decide_eq_true_eq] at h5
    omega
theorem findN_some {l : List Sym} {n : ByteArray} {j : Nat} {s : Sym} (hs : l[j]? = some s) (hq : isN n s = true) (hk : ∀ k, k < j → ∀ t, l[k]? = some t → isN n t = false) : findN l n = (j : Int) := by
  unfold findN
  have : l.findIdx? (isN n) = some j := by
    rw [List.findIdx?_eq_some_iff_getElem]
    have hl := lt_at hs
    refine ⟨hl, ?_, fun k hkj => ?_⟩
    · rw [List.getElem?_eq_getElem hl] at hs; simp at hs; rw [hs]; exact hq
    · have := hk k hkj l[k] (by simp)
      simpa using this
  rw [this]
theorem findN_none {l : List Sym} {n : ByteArray} (hk : ∀ k, k < l.length → ∀ t, l[k]? = some t → isN n t = false) : findN l n = -1 := by
  unfold findN
  have : l.findIdx? (isN n) = none := by
    rw [List.findIdx?_eq_none_iff]
    intro x hx
    obtain ⟨k, hk1, hk2⟩ := List.getElem_of_mem hx
    exact hk k hk1 x (by rw [List.getElem?_eq_getElem hk1, hk2])
  rw [this]

/-! ### Terms -/
/-- How many terms stand behind a code; none: it may not begin a term. -/
def arOf (g : List Sym) (c : Int) : Option Nat :=
  if c < 0 then (if -24 ≤ c then some 0 else none) else match g[c.toNat]? with
    | none => none
    | some s => if s.kind = 0 then none else some s.ar.toNat
/-- How many codes so many terms have. -/
def lenN (g : List Sym) : List Int → Nat → Option Nat
  | _, 0 => some 0
  | [], _ + 1 => none
  | c :: r, n + 1 => match arOf g c with
    | none => none
    | some k => (lenN g r (n + k)).map (· + 1)
theorem lenN_le {g : List Sym} : ∀ {r : List Int} {n k : Nat}, lenN g r n = some k → k ≤ r.length ∧ n ≤ k
  | r, 0, k, h => by cases r <;> (simp [lenN] at h; subst h; simp)
  | [], n + 1, k, h => by simp [lenN] at h
  | c :: r, n + 1, k, h => by
    unfold lenN at h
    split at h
    · cases h
    · rename_i a ha
      obtain ⟨m, hm, rfl⟩ := Option.map_eq_some_iff.1 h
      have := lenN_le hm
      simp; omega
theorem gi_drop {r : List Int} {i : Nat} (h : i < r.length) : r.drop i = gi r i :: r.drop (i + 1) := by
  rw [List.drop_eq_getElem_cons h]; simp [gi, h]
theorem drop_ge {r : List Int} {i : Nat} (h : ¬ i < r.length) : r.drop i = [] := List.drop_of_length_le (by omega)
theorem arOf_le {g : List Sym} (hg : SigOk g) {c : Int} {k : Nat} (h : arOf g c = some k) : k ≤ 3 := by
  unfold arOf at h
  split at h
  · split at h <;> simp at h; omega
  · split at h
    · cases h
    · rename_i s hs
      have := hg.nums _ _ hs
      split at h <;> simp at h; omega
def arV (g : List Sym) (c : Int) : Int := ((arOf g c).getD 0 : Nat)
theorem lenN_end {g : List Sym} {r : List Int} {i n : Nat} (h : ¬ i < r.length) (hn : 1 ≤ n) : lenN g (r.drop i) n = none := by
  rw [drop_ge h]
  obtain ⟨m, rfl⟩ : ∃ m, n = m + 1 := ⟨n - 1, by omega⟩
  rfl
theorem lenN_no {g : List Sym} {r : List Int} {i n : Nat} (h : i < r.length) (hn : 1 ≤ n) (ha : arOf g (gi r i) = none) : lenN g (r.drop i) n = none := by
  rw [gi_drop h]
  obtain ⟨m, rfl⟩ : ∃ m, n = m + 1 := ⟨n - 1, by omega⟩
  simp [lenN, ha]
theorem lenN_go {g : List Sym} {r : List Int} {i n k : Nat} (h : i < r.length) (hn : 1 ≤ n) (ha : arOf g (gi r i) = some k) : lenN g (r.drop i) n = (lenN g (r.drop (i + 1)) (n + k - 1)).map (· + 1) := by
  rw [gi_drop h]
  obtain ⟨m, rfl⟩ : ∃ m, n = m + 1 := ⟨n - 1, by omega⟩
  simp only [lenN, ha]
  rw [show m + 1 + k - 1 = m + k by omega]
/-- The place behind so many terms from a place on. -/
def skV (g : List Sym) (r : List Int) (i n : Nat) : Int := match lenN g (r.drop i) n with | some k => ((i + k : Nat) : Int) | none => 0
def skB (g : List Sym) (r : List Int) (i n : Nat) : Bool := (lenN g (r.drop i) n).isSome
def skR (g : List Sym) (r : List Int) (i n : Nat) : Int := match lenN g (r.drop i) n with | some k => ((i + k : Nat) : Int) | none => -1
/-- The terms of a row; none: it is no row of terms. -/
def parts (g : List Sym) (r : List Int) : Option (List (List Int)) :=
  if hr : r = [] then some [] else match h : lenN g r 1 with
    | none => none
    | some k => (parts g (r.drop k)).map (r.take k :: ·)
termination_by r.length
decreasing_by
  have := lenN_le h
  have : r.length ≠ 0 := fun e => hr (List.length_eq_zero_iff.1 e)
  simp; omega
theorem parts_nil (g : List Sym) : parts g [] = some [] := by rw [parts]; simp
theorem parts_none {g : List Sym} {r : List Int} (hr : r ≠ []) (h : lenN g r 1 = none) : parts g r = none := by
  rw [parts]; rw [dif_neg hr]; split
  · rfl
  · rename_i k hk; rw [h] at hk; cases hk
theorem parts_some {g : List Sym} {r : List Int} {k : Nat} (hr : r ≠ []) (h : lenN g r 1 = some k) : parts g r = (parts g (r.drop k)).map (r.take k :: ·) := by
  rw [parts]; rw [dif_neg hr]; split
  · rename_i hk; rw [h] at hk; cases hk
  · rename_i k' hk; rw [h] at hk; cases hk; rfl
/-- Where the terms begin, from a place on. -/
def begs (at_ : Nat) : List (List Int) → List Int
  | [] => []
  | t :: ts => (at_ : Int) :: begs (at_ + t.length) ts
/-- The terms of a row that may be (P2.1). -/
def rowP (g : List Sym) (r : List Int) : Option (List (List Int)) := if r.length ≤ 48 then parts g r else none
def atomB (g : List Sym) (a : List Int) : Bool :=
  match a with
  | [] => false
  | p :: r => if p < 0 then false else match g[p.toNat]? with
    | none => false
    | some s => s.kind == 0 && sigB g && (match rowP g r with | some ts => (ts.length : Int) == s.ar | none => false)
def rowB (g : List Sym) (r : List Int) : Bool := sigB g && (rowP g r).isSome
def begsM (g : List Sym) (r : List Int) : List Int := if sigB g = true then (match rowP g r with | some ts => begs 0 ts | none => []) else []
theorem begs_len : ∀ (ts : List (List Int)) (i : Nat), (begs i ts).length = ts.length
  | [], i => rfl
  | t :: ts, i => by simp [begs, begs_len ts]
theorem ints_nil : ints [] = [] := rfl
theorem ints_cons (x : Int) (l : List Int) : ints (x :: l) = .int .i64 x :: ints l := rfl
/-- Numbers that are not too many. -/
def Len (l : List Int) : Prop := l.length * 8 ≤ 140737488351232
theorem Len.lt {l : List Int} (h : Len l) : l.length < 20000000000000 := by unfold Len at h; omega

/-! ### Rows of rows -/
structure Row where
  z : Bool
  l : List Int
  e : List D
def Row.d (r : Row) : D := .sl 1 r.z (ints r.l) r.e
def rws (rs : List Row) : List D := rs.map Row.d
abbrev iR (z : Bool) (rs : List Row) (e : List D) : IV := .d (.sl 1 z (rws rs) e)
theorem rws_len (l : List Row) : (rws l).length = l.length := by simp [rws]
theorem rws_at {l : List Row} {i : Nat} {s : Row} (h : l[i]? = some s) : (rws l)[i]? = some (.sl 1 s.z (ints s.l) s.e) := by
  simp [rws, h, Row.d]
theorem rws_nil : rws [] = [] := rfl
theorem rws_cons (x : Row) (l : List Row) : rws (x :: l) = .sl 1 x.z (ints x.l) x.e :: rws l := rfl
theorem rws_append (l m : List Row) : rws (l ++ m) = rws l ++ rws m := by simp [rws]
theorem ints_ext {l m : List Int} (h : l.length = m.length) (h2 : ∀ i, i < l.length → gi l i = gi m i) : l = m := by
  refine List.ext_getElem h (fun i h3 h4 => ?_)
  have := h2 i h3
  simpa [gi, h3, h4] using this
/-- Which variables stand among codes. -/
def varsFrom (l : List Int) : Nat → Nat → List Int
  | 0, _ => []
  | k + 1, v => if l.contains (-1 - (v : Int)) then (v : Int) :: varsFrom l k (v + 1) else varsFrom l k (v + 1)
def varsM (l : List Int) : List Int := varsFrom l 24 0
end Go.Qu

/- Signatures, rows of terms, atoms: what the program's and the reference's functions hand back. For every input; no condition. -/
set_option linter.unusedVariables false
set_option linter.unusedSimpArgs false
set_option maxRecDepth 100000
namespace Go.Proofs.YtjhganbjbiihoaaDoor.Ab
open Go Go.Ab Go.Qu Go.Proofs
attribute [local simp] and_assoc
noncomputable abbrev C : Caller := Go.Ab.W F
theorem wfn {f : FuncId} {d : FnD} {args : List IV} {r : IV × List IV} {lk : List Nat} (h : codeOf code f = some d) (hl : lkFrom 0 args = lk) (h2 : evFnJ F (Go.Ab.W F) (JW F d lk) d args = some r) (hp : F.prim f = none := by rfl) : C f args = some r := W_fn hp h (by rw [hl]; exact h2)
/-! ### Signatures -/
@[simp] theorem w_small (c : Int) : C 116 [.d (.int .u8 c)] = some (iB (smallB c), [.d (.int .u8 c)]) := by
  refine wfn (lk := []) rfl rfl (fnW_way (q116 _ _ c _) ?_)
  by_cases h1 : 97 ≤ c <;> by_cases h2 : c ≤ 122 <;> simp [h1, h2, smallB]
@[simp] theorem w_called (s : ByteArray) : C 106 [.d (.str s)] = some (iB (nameB s), [.d (.str s)]) := by
  refine wfn (lk := []) rfl rfl (fnW_way (q106 _ _ s _) ?_)
  have hl := fun (h8 : s.size ≤ 8) => blk_all (F := F) (d := d106) (lk := []) (p := [1,1,0,1,0,0]) (p0 := [1,1,0,1]) (by kernel_rfl) (n := s.size) (id := 0) (st := fun i => [(0, .d (.str s)), (18, iI s.size), (19, iI i)]) (q := fun i => charB (byteAt s i)) (rt := [(2, iB false)]) (e := [(0, .d (.str s)), (18, iI s.size), (19, iI s.size)])
    (fun i hi hq => by
      refine wpQ_way (q106_l0a _ _ s _ i _) ?_
      simp only [charB, Bool.or_eq_true, Bool.and_eq_true, decide_eq_true_eq] at hq
      simp [wr1 hi (by omega), hi]
      intro h; simpa [h] using hq)
    (fun i hi hq => by
      refine wpQ_way (q106_l0a _ _ s _ i _) ?_
      simp [charB] at hq
      simp [-getElem?_pos, and_assoc, wr1 hi (by omega), hi, hq.1]
      omega)
    (wpQ_way (q106_l0a _ _ s _ s.size _) (by simp)) 0 (Nat.zero_le _)
  by_cases h0 : s.size = 0
  · have : s.toList = [] := List.length_eq_zero_iff.1 (by rw [bytes_len, h0])
    simp [this, nameB, h0]
  have h1 : ¬ s.toList = [] := fun e => h0 (by rw [← bytes_len, e]; rfl)
  by_cases h8 : s.size ≤ 8
  rotate_left
  · simp [h1, nameB, h8]; omega
  by_cases hs : smallB (byteAt s 0) = true
  rotate_left
  · have hs' : smallB (byteAt s 0) = false := by simpa using hs
    simp [h1, nameB, hs']; omega
  rcases hl h8 with ⟨h2, h3⟩ | ⟨⟨j, h2, h4, h5⟩, h3⟩
  · have h6 : nameB s = true := by
      simp only [nameB, Bool.and_eq_true, decide_eq_true_eq, hs, and_true, List.all_eq_true, List.mem_range]
      exact ⟨⟨by omega, h8⟩, fun j hj => h2 j (Nat.zero_le _) hj⟩
    simp at h3
    simp [h1, hs, h3, h6]
    omega
  · have h6 : nameB s = false := by
      simp only [nameB, Bool.and_eq_false_iff]
      right
      rw [List.all_eq_false]
      exact ⟨j, List.mem_range.2 h4, by simp [h5]⟩
    simp at h3
    simp [h1, hs, h3, h6]
    omega
@[simp] theorem w_symmay (s : Sym) : C 84 [.d (.agg [.str s.name, .int .i64 s.kind, .int .i64 s.ar, .int .i64 s.wt])] = some (iB (symB s), [.d (.agg [.str s.name, .int .i64 s.kind, .int .i64 s.ar, .int .i64 s.wt])]) := by
  refine wfn (lk := []) rfl rfl (fnW_way (q84 _ _ s.name s.kind s.ar s.wt _) ?_)
  cases hn : nameB s.name <;> simp [hn, symB, numsB]
  by_cases h1 : 0 ≤ s.kind <;> by_cases h2 : s.kind ≤ 2 <;> by_cases h3 : 0 ≤ s.ar <;> by_cases h4 : s.ar ≤ 3 <;> by_cases h5 : 1 ≤ s.wt <;> by_cases h6 : s.wt ≤ 20 <;> simp [h1, h2, h3, h4, h5, h6] <;> omega
theorem w_find {g : List Sym} (hg : g.length ≤ 20) (z : Bool) (e : List D) (n : ByteArray) : C 85 [iG z g e, .d (.str n)] = some (iI (findN g n), [iG z g e, .d (.str n)]) := by
  refine wfn (lk := []) rfl rfl (fnW_way (q85 _ _ z (syms g) e n _) ?_)
  have hl := blk_find (F := F) (d := d85) (lk := []) (p := [1,0,1,0,0]) (p0 := [1,0,1]) (by kernel_rfl) (n := g.length) (id := 0) (st := fun i => [(0, iG z g e), (1, .d (.str n)), (7, iI g.length), (8, iI i)]) (q := fun i => match g[i]? with | some s => isN n s | none => false) (rt := fun i => [(4, iI i)]) (e := [(0, iG z g e), (1, .d (.str n)), (7, iI g.length), (8, iI g.length)])
    (fun i hi hq => by
      refine wpQ_way (q85_l0a _ _ z (syms g) e n _ i _) ?_
      obtain ⟨s, hs⟩ := at_lt hi
      simp [hs, isN] at hq
      simp [-getElem?_pos, and_assoc, wr1 hi (by omega), hi, syms_at hs, hq])
    (fun i hi hq => by
      refine wpQ_way (q85_l0a _ _ z (syms g) e n _ i _) ?_
      obtain ⟨s, hs⟩ := at_lt hi
      simp [hs, isN] at hq
      simp [-getElem?_pos, and_assoc, wr1 hi (by omega), hi, syms_at hs, hq])
    (wpQ_way (q85_l0a _ _ z (syms g) e n _ g.length _) (by simp)) 0 (Nat.zero_le _)
  rcases hl with ⟨h2, h3⟩ | ⟨j, h1, h2, h4, h5, h3⟩
  · rw [findN_none (fun k hk t ht => by have := h2 k (Nat.zero_le _) hk; rw [ht] at this; exact this)]
    simp at h3
    simp [syms_len, h3]
  · obtain ⟨s, hs⟩ := at_lt h2
    rw [findN_some hs (by rw [hs] at h4; exact h4) (fun k hk t ht => by have := h5 k (Nat.zero_le _) hk; rw [ht] at this; exact this)]
    simp at h3
    simp [syms_len, h3]
theorem w_may (z : Bool) (g : List Sym) (e : List D) : C 47 [iG z g e] = some (iB (sigB g), [iG z g e]) := by
  refine wfn (lk := []) rfl rfl (fnW_way (q47 _ _ z (syms g) e _) ?_)
  by_cases h1 : 1 ≤ g.length
  rotate_left
  · simp [syms_len, sigB, h1]; omega
  by_cases h20 : g.length ≤ 20
  rotate_left
  · simp [syms_len, sigB, h20]; omega
  obtain ⟨s0, hs0⟩ := at_lt (show 0 < g.length by omega)
  have e1 : ¬ ((g.length : Int) < 1) := by omega
  have e2 : ¬ (20 < (g.length : Int)) := by omega
  have hl := blk_all (F := F) (d := d47) (lk := []) (p := [1,1,0,1,0,0]) (p0 := [1,1,0,1]) (by kernel_rfl) (n := g.length) (id := 0) (st := fun i => [(0, iG z g e), (3, iI i)]) (q := sigAt g) (rt := [(2, iB false)]) (e := [(0, iG z g e), (3, iI g.length)])
    (fun i hi hq => by
      refine wpQ_way (q47_l0a _ _ z (syms g) e i _) ?_
      obtain ⟨s, hs⟩ := at_lt hi
      simp [sigAt, hs] at hq
      simp [-getElem?_pos, and_assoc, wr1 hi (by omega), hi, syms_len, syms_at hs, hq, w_find h20])
    (fun i hi hq => by
      refine wpQ_way (q47_l0a _ _ z (syms g) e i _) ?_
      obtain ⟨s, hs⟩ := at_lt hi
      simp [sigAt, hs] at hq
      cases hm : symB s
      · simp [-getElem?_pos, and_assoc, wr1 hi (by omega), hi, syms_len, syms_at hs, hm]
      · simp [-getElem?_pos, and_assoc, wr1 hi (by omega), hi, syms_len, syms_at hs, hm, w_find h20, hq hm])
    (wpQ_way (q47_l0a _ _ z (syms g) e g.length _) (by simp [syms_len])) 1 h1
  have e0 : "=".toUTF8.toList = [61] := by decide +kernel
  have hq : (s0.name.toList == "=".toUTF8.toList && (s0.kind == 0 && (s0.ar == 2 && (s0.wt == 1 && true)))) = eqSym s0 := by rw [e0]; rfl
  simp only [syms_len, syms_at hs0, condW_d, e1, e2, if_false, gt_iff_lt]
  simp only [Option.some.injEq, D.agg.injEq, List.cons.injEq, D.str.injEq, D.int.injEq, true_and, and_true]
  refine ⟨s0.name, s0.kind, s0.ar, s0.wt, ⟨rfl, rfl, rfl, rfl⟩, ?_⟩
  rw [hq]
  cases h0 : eqSym s0
  · simp [sigB, h1, h20, hs0, h0]
  rcases hl with ⟨h2, h3⟩ | ⟨⟨j, h2, h4, h5⟩, h3⟩
  · have h6 : sigB g = true := by
      simp only [sigB, h1, h20, hs0, h0, Bool.and_eq_true, decide_eq_true_eq, List.all_eq_true, List.mem_range'_1, true_and]
      exact fun j hj => h2 j hj.1 (by omega)
    simp at h3
    simp [h3, h6]
  · have h6 : sigB g = false := by
      simp only [sigB, Bool.and_eq_false_iff]
      right
      rw [List.all_eq_false]
      exact ⟨j, by rw [List.mem_range'_1]; omega, by simp [h5]⟩
    simp at h3
    simp [h3, h6]
/-! ### The reference's -/
@[simp] theorem w_rsmall (c : Int) : C 109 [.d (.int .u8 c)] = some (iB (smallB c), [.d (.int .u8 c)]) := by
  refine wfn (lk := []) rfl rfl (fnW_way (q109 _ _ c _) ?_)
  by_cases h1 : 97 ≤ c <;> by_cases h2 : c ≤ 122 <;> simp [h1, h2, smallB]
@[simp] theorem w_rsymmay (s : Sym) : C 88 [.d (.agg [.str s.name, .int .i64 s.kind, .int .i64 s.ar, .int .i64 s.wt])] = some (iB (symB s), [.d (.agg [.str s.name, .int .i64 s.kind, .int .i64 s.ar, .int .i64 s.wt])]) := by
  refine wfn (lk := []) rfl rfl (fnW_way (q88 _ _ s.name s.kind s.ar s.wt _) ?_)
  have hl := fun (h8 : s.name.size ≤ 8) => blk_all (F := F) (d := d88) (lk := []) (p := [1,1,0,1,0,0]) (p0 := [1,1,0,1]) (by kernel_rfl) (n := s.name.size) (id := 0) (st := fun i => [(1, .dbox 88 0 [.str s.name, .int .i64 s.kind, .int .i64 s.ar, .int .i64 s.wt]), (3, iI i)]) (q := fun i => charB (byteAt s.name i)) (rt := [(2, iB false)]) (e := [(1, .dbox 88 0 [.str s.name, .int .i64 s.kind, .int .i64 s.ar, .int .i64 s.wt]), (3, iI s.name.size)])
    (fun i hi hq => by
      refine wpQ_way (q88_l0a _ _ s.name s.kind s.ar s.wt i _) ?_
      simp only [charB, Bool.or_eq_true, Bool.and_eq_true, decide_eq_true_eq] at hq
      simp [wr1 hi (by omega), hi]
      intro h; simpa [h] using hq)
    (fun i hi hq => by
      refine wpQ_way (q88_l0a _ _ s.name s.kind s.ar s.wt i _) ?_
      simp [charB] at hq
      simp [-getElem?_pos, and_assoc, wr1 hi (by omega), hi, hq.1]
      omega)
    (wpQ_way (q88_l0a _ _ s.name s.kind s.ar s.wt s.name.size _) (by simp)) 0 (Nat.zero_le _)
  by_cases h0 : s.name.size = 0
  · simp [symB, nameB, h0]
  by_cases h8 : s.name.size ≤ 8
  rotate_left
  · simp [symB, nameB, h8]; omega
  by_cases hs : smallB (byteAt s.name 0) = true
  rotate_left
  · have hs' : smallB (byteAt s.name 0) = false := by simpa using hs
    simp [symB, nameB, hs']; omega
  have e1 : ¬ ((s.name.size : Int) < 1) := by omega
  have e2 : ¬ (8 < (s.name.size : Int)) := by omega
  have e3 : 0 < s.name.size := by omega
  rcases hl h8 with ⟨h2, h3⟩ | ⟨⟨j, h2, h4, h5⟩, h3⟩
  · have h6 : nameB s.name = true := by
      simp only [nameB, Bool.and_eq_true, decide_eq_true_eq, hs, and_true, List.all_eq_true, List.mem_range]
      exact ⟨⟨by omega, h8⟩, fun j hj => h2 j (Nat.zero_le _) hj⟩
    simp at h3
    simp [e1, e2, e3, hs, h3, h6, symB, numsB]
    by_cases h1 : 0 ≤ s.kind <;> by_cases h2 : s.kind ≤ 2 <;> by_cases h3 : 0 ≤ s.ar <;> by_cases h4 : s.ar ≤ 3 <;> by_cases h5 : 1 ≤ s.wt <;> by_cases h6 : s.wt ≤ 20 <;> simp [h1, h2, h3, h4, h5, h6] <;> omega
  · have h6 : nameB s.name = false := by
      simp only [nameB, Bool.and_eq_false_iff]
      right
      rw [List.all_eq_false]
      exact ⟨j, List.mem_range.2 h4, by simp [h5]⟩
    simp at h3
    simp [e1, e2, e3, hs, h3, h6, symB]
theorem w_code {g : List Sym} (hg : g.length ≤ 20) (z : Bool) (e : List D) (n : ByteArray) : C 89 [iG z g e, .d (.str n)] = some (iI (findN g n), [iG z g e, .d (.str n)]) := by
  refine wfn (lk := []) rfl rfl (fnW_way (q89 _ _ z (syms g) e n _) ?_)
  have hl := blk_find (F := F) (d := d89) (lk := []) (p := [1,0,1,0,0]) (p0 := [1,0,1]) (by kernel_rfl) (n := g.length) (id := 0) (st := fun i => [(0, iG z g e), (1, .d (.str n)), (5, iI i)]) (q := fun i => match g[i]? with | some s => isN n s | none => false) (rt := fun i => [(4, iI i)]) (e := [(0, iG z g e), (1, .d (.str n)), (5, iI g.length)])
    (fun i hi hq => by
      refine wpQ_way (q89_l0a _ _ z (syms g) e n i _) ?_
      obtain ⟨s, hs⟩ := at_lt hi
      simp [hs, isN] at hq
      simp [-getElem?_pos, and_assoc, wr1 hi (by omega), hi, syms_len, syms_at hs, hq])
    (fun i hi hq => by
      refine wpQ_way (q89_l0a _ _ z (syms g) e n i _) ?_
      obtain ⟨s, hs⟩ := at_lt hi
      simp [hs, isN] at hq
      simp [-getElem?_pos, and_assoc, wr1 hi (by omega), hi, syms_len, syms_at hs, hq])
    (wpQ_way (q89_l0a _ _ z (syms g) e n g.length _) (by simp [syms_len])) 0 (Nat.zero_le _)
  rcases hl with ⟨h2, h3⟩ | ⟨j, h1, h2, h4, h5, h3⟩
  · rw [findN_none (fun k hk t ht => by have := h2 k (Nat.zero_le _) hk; rw [ht] at this; exact this)]
    simp at h3
    simp [syms_len, h3]
  · obtain ⟨s, hs⟩ := at_lt h2
    rw [findN_some hs (by rw [hs] at h4; exact h4) (fun k hk t ht => by have := h5 k (Nat.zero_le _) hk; rw [ht] at this; exact this)]
    simp at h3
    simp [syms_len, h3]
theorem w_rmay (z : Bool) (g : List Sym) (e : List D) : C 50 [iG z g e] = some (iB (sigB g), [iG z g e]) := by
  refine wfn (lk := []) rfl rfl (fnW_way (q50 _ _ z (syms g) e _) ?_)
  by_cases h1 : 1 ≤ g.length
  rotate_left
  · simp [syms_len, sigB, h1]; omega
  by_cases h20 : g.length ≤ 20
  rotate_left
  · simp [syms_len, sigB, h20]; omega
  obtain ⟨s0, hs0⟩ := at_lt (show 0 < g.length by omega)
  have e1 : ¬ ((g.length : Int) < 1) := by omega
  have e2 : ¬ (20 < (g.length : Int)) := by omega
  have hl := blk_all (F := F) (d := d50) (lk := []) (p := [1,1,0,1,0,0]) (p0 := [1,1,0,1]) (by kernel_rfl) (n := g.length) (id := 0) (st := fun i => [(0, iG z g e), (3, iI i)]) (q := sigAt g) (rt := [(2, iB false)]) (e := [(0, iG z g e), (3, iI g.length)])
    (fun i hi hq => by
      refine wpQ_way (q50_l0a _ _ z (syms g) e i _) ?_
      obtain ⟨s, hs⟩ := at_lt hi
      simp [sigAt, hs] at hq
      simp [-getElem?_pos, and_assoc, wr1 hi (by omega), hi, syms_len, syms_at hs, hq, w_code h20])
    (fun i hi hq => by
      refine wpQ_way (q50_l0a _ _ z (syms g) e i _) ?_
      obtain ⟨s, hs⟩ := at_lt hi
      simp [sigAt, hs] at hq
      cases hm : symB s
      · simp [-getElem?_pos, and_assoc, wr1 hi (by omega), hi, syms_len, syms_at hs, hm]
      · simp [-getElem?_pos, and_assoc, wr1 hi (by omega), hi, syms_len, syms_at hs, hm, w_code h20, hq hm])
    (wpQ_way (q50_l0a _ _ z (syms g) e g.length _) (by simp [syms_len])) 1 h1
  have e0 : ByteArray.toList { data := #[61] } = [61] := by decide +kernel
  have hq : (s0.name.toList == ByteArray.toList { data := #[61] } && (s0.kind == 0 && (s0.ar == 2 && (s0.wt == 1 && true)))) = eqSym s0 := by rw [e0]; rfl
  simp only [syms_len, syms_at hs0, condW_d, e1, e2, if_false, gt_iff_lt]
  simp only [Option.some.injEq, D.agg.injEq, List.cons.injEq, D.str.injEq, D.int.injEq, true_and, and_true]
  refine ⟨s0.name, s0.kind, s0.ar, s0.wt, ⟨rfl, rfl, rfl, rfl⟩, ?_⟩
  rw [hq]
  cases h0 : eqSym s0
  · simp [sigB, h1, h20, hs0, h0]
  rcases hl with ⟨h2, h3⟩ | ⟨⟨j, h2, h4, h5⟩, h3⟩
  · have h6 : sigB g = true := by
      simp only [sigB, h1, h20, hs0, h0, Bool.and_eq_true, decide_eq_true_eq, List.all_eq_true, List.mem_range'_1, true_and]
      exact fun j hj => h2 j hj.1 (by omega)
    simp at h3
    simp [h3, h6]
  · have h6 : sigB g = false := by
      simp only [sigB, Bool.and_eq_false_iff]
      right
      rw [List.all_eq_false]
      exact ⟨j, by rw [List.mem_range'_1]; omega, by simp [h5]⟩
    simp at h3
    simp [h3, h6]
end Go.Proofs.YtjhganbjbiihoaaDoor.Ab

/- Rows of terms, atoms: what the program's and the reference's functions hand back. For every input; no condition. -/
set_option linter.unusedVariables false
set_option linter.unusedSimpArgs false
set_option maxRecDepth 100000
namespace Go.Proofs.YtjhganbjbiihoaaDoor.Ab
open Go Go.Ab Go.Qu Go.Proofs
attribute [local simp] and_assoc
theorem w_number (c : Int) : C 65 [iI c] = some (iI (IntKind.wrap .i64 (-1 - c)), [iI c]) :=
  wfn (lk := []) rfl rfl (fnW_way (q65 _ _ c _) (by simp))
theorem w_number23 : C 65 [iI 23] = some (iI (-24), [iI 23]) := by rw [w_number, wr _ (by omega) (by omega)]; rfl
theorem w_args {g : List Sym} (hg : SigOk g) (z : Bool) (e : List D) (c : Int) : C 115 [iG z g e, iI c] = some (.tup [iI (arV g c), iB (arOf g c).isSome], [iG z g e, iI c]) := by
  refine wfn (lk := []) rfl rfl (fnW_way (q115 _ _ z (syms g) e c _) ?_)
  by_cases h0 : c < 0
  · by_cases h1 : -24 ≤ c
    · simp [h0, h1, arV, arOf, w_number23]
    · simp [h0, h1, arV, arOf, w_number23]; omega
  by_cases h2 : c < g.length
  · obtain ⟨s, hs⟩ := at_lt (l := g) (i := c.toNat) (by omega)
    have hn := hg.nums _ _ hs
    have h3 : 0 ≤ c := by omega
    have h4 : ¬ (g.length : Int) ≤ c := by omega
    by_cases hk : s.kind = 0
    · simp [-getElem?_pos, h0, h2, h3, h4, syms_len, syms_at hs, arV, arOf, hs, hk]
    · simp [-getElem?_pos, h0, h2, h3, h4, syms_len, syms_at hs, arV, arOf, hs, hk]; omega
  · have hs : g[c.toNat]? = none := List.getElem?_eq_none (by omega)
    have h4 : (g.length : Int) ≤ c := by omega
    simp [h0, h4, syms_len, arV, arOf, hs]
theorem l_skip {g : List Sym} (hg : SigOk g) (z z' : Bool) (e e' : List D) {r : List Int} (hr : r.length < 20000000000000) : ∀ x : Nat × Nat, (1 ≤ x.2 ∧ x.2 ≤ 3 * x.1 + 1 ∧ x.1 ≤ r.length) →
    ∃ o, evG (JW F d100 []) d100 [1, 0] 0 [(0, iG z g e), (1, iS z' r e'), (2, iI x.1), (8, iI x.2)] = some o ∧ o = .ret [(6, iI (skV g r x.1 x.2)), (7, iB (skB g r x.1 x.2))] :=
  label_rule (F := F) (d := d100) (lk := []) (p := [1, 0]) (fun _ => 0) (fun (x : Nat × Nat) => [(0, iG z g e), (1, iS z' r e'), (2, iI x.1), (8, iI x.2)]) _ (fun x => r.length - x.1) (fun x o => o = .ret [(6, iI (skV g r x.1 x.2)), (7, iB (skB g r x.1 x.2))]) (fun _ _ => by decide +kernel) (fun x hx => by
    obtain ⟨i, n⟩ := x
    obtain ⟨h1, h2, h3⟩ := hx
    dsimp only at h1 h2 h3 ⊢
    by_cases hi : i < r.length
    · have hi' : ¬ (r.length : Int) ≤ i := by omega
      cases ha : arOf g (gi r i) with
      | none =>
        refine .inr ⟨_, wpR_way (q100_l1000000a _ _ z (syms g) e z' (ints r) e' i n _) ?_, rfl, rfl⟩
        simp [-getElem?_pos, ints_len, hi', Go.Ab.ints_at hi, w_args hg, ha, skV, skB, lenN_no hi h1 ha]
      | some k =>
        have hk := arOf_le hg ha
        have hw1 : IntKind.wrap .i64 ((k : Int) - 1) = (k : Int) - 1 := wr _ (by omega) (by omega)
        have hw2 : IntKind.wrap .i64 ((n : Int) + ((k : Int) - 1)) = ((n + k - 1 : Nat) : Int) := by rw [wr _ (by omega) (by omega)]; omega
        have hw3 := wr1 hi (by omega)
        by_cases hn : 0 < n + k - 1
        · refine .inl ⟨(i + 1, n + k - 1), wpR_way (q100_l1000000a _ _ z (syms g) e z' (ints r) e' i n _) ?_, ⟨by dsimp only; omega, by dsimp only; omega, by dsimp only; omega⟩, by dsimp only; omega, fun o ho => ?_⟩
          · simp [-getElem?_pos, -Int.natCast_add, ints_len, hi', Go.Ab.ints_at hi, w_args hg, ha, arV, hw1, hw2, hw3, hn]
          · rw [ho]
            simp only [skV, skB, lenN_go hi h1 ha]
            cases lenN g (r.drop (i + 1)) (n + k - 1) <;> simp; omega
        · refine .inr ⟨_, wpR_way (q100_l1000000a _ _ z (syms g) e z' (ints r) e' i n _) ?_, rfl, rfl⟩
          have hz : n + k - 1 = 0 := by omega
          have hl : lenN g (r.drop i) n = some 1 := by rw [lenN_go hi h1 ha, hz]; simp [lenN]
          simp [-getElem?_pos, -Int.natCast_add, ints_len, hi', Go.Ab.ints_at hi, w_args hg, ha, arV, hw1, hw2, hw3, hz, skV, skB, hl]
    · have hi' : (r.length : Int) ≤ i := by omega
      refine .inr ⟨_, wpR_way (q100_l1000000a _ _ z (syms g) e z' (ints r) e' i n _) ?_, rfl, rfl⟩
      simp [ints_len, hi', skV, skB, lenN_end hi h1])
theorem w_skip {g : List Sym} (hg : SigOk g) (z z' : Bool) (e e' : List D) {r : List Int} (hr : r.length < 20000000000000) (i : Nat) : C 100 [iG z g e, iS z' r e', iI i] = some (.tup [iI (skV g r i 1), iB (skB g r i 1)], [iG z g e, iS z' r e', iI i]) := by
  refine wfn (lk := []) rfl rfl (fnW_way (q100 _ _ z (syms g) e z' (ints r) e' i _) ?_)
  by_cases hi : i < r.length
  · have hi' : ¬ (r.length : Int) ≤ i := by omega
    cases ha : arOf g (gi r i) with
    | none => simp [-getElem?_pos, ints_len, hi', Go.Ab.ints_at hi, w_args hg, ha, skV, skB, lenN_no hi (Nat.le_refl 1) ha]
    | some k =>
      have hk := arOf_le hg ha
      have hw1 : IntKind.wrap .i64 ((k : Int) - 1) = (k : Int) - 1 := wr _ (by omega) (by omega)
      have hw2 : IntKind.wrap .i64 (1 + ((k : Int) - 1)) = (k : Int) := by rw [wr _ (by omega) (by omega)]; omega
      have hw3 := wr1 hi (by omega)
      by_cases hn : 0 < k
      · obtain ⟨o, h1, rfl⟩ := l_skip hg z z' e e' hr (i + 1, k) ⟨hn, by dsimp only; omega, hi⟩
        have hl := lenN_go hi (Nat.le_refl 1) ha
        rw [show 1 + k - 1 = k by omega] at hl
        have e1 : skV g r i 1 = skV g r (i + 1) k := by
          simp only [skV, hl]
          cases lenN g (r.drop (i + 1)) k <;> simp; omega
        have e2 : skB g r i 1 = skB g r (i + 1) k := by simp [skB, hl]
        simp [-getElem?_pos, -Int.natCast_add, ints_len, hi', Go.Ab.ints_at hi, w_args hg, ha, arV, hw1, hw2, hw3, hn, h1, e1, e2]
      · have hz : k = 0 := by omega
        subst hz
        have hl : lenN g (r.drop i) 1 = some 1 := by rw [lenN_go hi (Nat.le_refl 1) ha]; simp [lenN]
        have hw0 : IntKind.wrap .i64 (-1) = -1 := wr _ (by omega) (by omega)
        have hw4 : IntKind.wrap .i64 0 = 0 := wr _ (by omega) (by omega)
        simp [-getElem?_pos, -Int.natCast_add, ints_len, hi', Go.Ab.ints_at hi, w_args hg, ha, arV, hw0, hw4, hw3, skV, skB, hl]
  · have hi' : (r.length : Int) ≤ i := by omega
    simp [ints_len, hi', skV, skB, lenN_end hi (Nat.le_refl 1)]
theorem l_begins {g : List Sym} (hg : sigB g = true) (z z' : Bool) (e e' : List D) {r : List Int} (hr : r.length ≤ 48) : ∀ x : List Int × Nat, (x.1.length ≤ x.2 ∧ x.2 ≤ r.length ∧ x.1 ≠ []) →
    ∃ o, evG (JW F d108 []) d108 [1, 0] 0 [(0, iG z g e), (1, iS z' r e'), (6, .own false 3 1 (ints x.1)), (7, iI x.2)] = some o ∧
      match parts g (r.drop x.2) with | some ts => o = .ret [(4, .own false 3 1 (ints (x.1 ++ begs x.2 ts))), (5, iB true)] | none => o = .ret [(4, .own true 3 1 []), (5, iB false)] :=
  label_rule (F := F) (d := d108) (lk := []) (p := [1, 0]) (fun _ => 0) (fun (x : List Int × Nat) => [(0, iG z g e), (1, iS z' r e'), (6, .own false 3 1 (ints x.1)), (7, iI x.2)]) _ (fun x => r.length - x.2) (fun x o => match parts g (r.drop x.2) with | some ts => o = .ret [(4, .own false 3 1 (ints (x.1 ++ begs x.2 ts))), (5, iB true)] | none => o = .ret [(4, .own true 3 1 []), (5, iB false)]) (fun _ _ => by decide +kernel) (fun x hx => by
    obtain ⟨acc, i⟩ := x
    obtain ⟨h1, h2, h3⟩ := hx
    dsimp only at h1 h2 h3 ⊢
    by_cases hi : i = r.length
    · refine .inr ⟨.ret [(4, .own false 3 1 (ints acc)), (5, iB true)], wpR_way (q108_l1000000a _ _ z (syms g) e z' (ints r) e' false (ints acc) i _) ?_, rfl, ?_⟩
      · simp [ints_len, hi]
      · rw [List.drop_of_length_le (by omega), parts_nil]; simp [begs]
    · have hne : r.drop i ≠ [] := by simp; omega
      have hsk := w_skip (sigOk hg) z z' e e' (r := r) (by omega) i
      have hi' : ¬ ((i : Int) = r.length) := by omega
      cases hl : lenN g (r.drop i) 1 with
      | none =>
        refine .inr ⟨.ret [(4, .own true 3 1 []), (5, iB false)], wpR_way (q108_l1000000a _ _ z (syms g) e z' (ints r) e' false (ints acc) i _) ?_, rfl, ?_⟩
        · simp [ints_len, hi', hsk, skV, skB, hl]
        · rw [parts_none hne hl]
      | some k =>
        have hle := lenN_le hl
        simp at hle
        refine .inl ⟨(acc ++ [(i : Int)], i + k), wpR_way (q108_l1000000a _ _ z (syms g) e z' (ints r) e' false (ints acc) i _) ?_, ⟨by simp; omega, by dsimp only; omega, by simp⟩, by dsimp only; omega, fun o ho => ?_⟩
        · simp [ints_len, hi', hsk, skV, skB, hl, ints_append, ints_cons, ints_nil]
          omega
        · rw [parts_some hne hl]
          rw [List.drop_drop]
          dsimp only at ho
          cases hp : parts g (r.drop (i + k)) with
          | none => rw [hp] at ho; exact ho
          | some ts =>
            rw [hp] at ho
            simp only [Option.map_some] at ho ⊢
            rw [ho]
            simp [begs, List.length_take]
            rw [show min k (r.length - i) = k by omega])
theorem w_begins (z z' : Bool) (g : List Sym) (e e' : List D) (r : List Int) : C 108 [iG z g e, iS z' r e'] = some (.tup [.own (begsM g r).isEmpty 3 1 (ints (begsM g r)), iB (rowB g r)], [iG z g e, iS z' r e']) := by
  refine wfn (lk := []) rfl rfl (fnW_way (q108 _ _ z (syms g) e z' (ints r) e' _) ?_)
  have hm := w_may z g e
  cases hg : sigB g
  · simp [hm, hg, begsM, rowB, ints_nil]
  by_cases hr : r.length ≤ 48
  rotate_left
  · have e1 : 48 < (r.length : Int) := by omega
    simp [hm, hg, begsM, rowB, ints_nil, rowP, hr, e1, ints_len]
  have e1 : ¬ 48 < (r.length : Int) := by omega
  by_cases h0 : r = []
  · subst h0
    simp [hm, hg, begsM, rowB, ints_nil, rowP, parts_nil, begs]
  have h0' : ¬ r.length = 0 := fun e => h0 (List.length_eq_zero_iff.1 e)
  have h0'' : ¬ ((0 : Int) = r.length) := by omega
  have hsk : C 100 [iG z g e, iS z' r e', iI 0] = some (.tup [iI (skV g r 0 1), iB (skB g r 0 1)], [iG z g e, iS z' r e', iI 0]) := w_skip (sigOk hg) z z' e e' (r := r) (by omega) 0
  cases hl : lenN g r 1 with
  | none =>
    simp [hm, hg, begsM, rowB, ints_nil, rowP, hr, e1, ints_len, h0'', hsk, skV, skB, hl, parts_none h0 hl]
  | some k =>
    have hle := lenN_le hl
    obtain ⟨o, h1, h2⟩ := l_begins hg z z' e e' hr ([0], k) ⟨by simp; omega, hle.1, by simp⟩
    dsimp only at h2
    simp only [ints_cons, ints_nil] at h1
    have hp := parts_some h0 hl
    cases hq : parts g (r.drop k) with
    | none =>
      rw [hq] at h2 hp
      subst h2
      simp [hm, hg, begsM, rowB, ints_nil, rowP, hr, e1, ints_len, h0'', hsk, skV, skB, hl, hp, h1]
    | some ts =>
      rw [hq] at h2 hp
      subst h2
      simp [hm, hg, begsM, rowB, ints_nil, rowP, hr, e1, ints_len, h0'', hsk, skV, skB, hl, hp, h1, begs, Nat.min_eq_left hle.1]
theorem w_isatom (z z' : Bool) (g : List Sym) (e e' : List D) (a : List Int) : C 107 [iG z g e, iS z' a e'] = some (iB (atomB g a), [iG z g e, iS z' a e']) := by
  refine wfn (lk := []) rfl rfl (fnW_way (q107 _ _ z (syms g) e z' (ints a) e' _) ?_)
  cases a with
  | nil => simp [ints_nil, atomB]
  | cons p r =>
    have e0 : ¬ ((r.length : Int) + 1 = 0) := by omega
    by_cases h0 : p < 0
    · have h3 : ¬ 0 ≤ p := by omega
      simp [ints_cons, ints_len, atomB, h0, e0, h3]
    by_cases h2 : p < g.length
    · obtain ⟨s, hs⟩ := at_lt (l := g) (i := p.toNat) (by omega)
      have h3 : 0 ≤ p := by omega
      have h4 : ¬ (g.length : Int) ≤ p := by omega
      have e1 : (1 : Int) ≤ (r.length : Int) + 1 := by omega
      have hb := w_begins z z' g e [] r
      by_cases hk : s.kind = 0
      · cases hg : sigB g
        · simp [-getElem?_pos, List.getElem?_cons_zero, ints_cons, ints_len, atomB, h0, e0, e1, h2, h3, h4, syms_len, syms_at hs, hs, hk, hb, hg, rowB]
        · cases hp : rowP g r with
          | none => simp [-getElem?_pos, List.getElem?_cons_zero, ints_cons, ints_len, atomB, h0, e0, e1, h2, h3, h4, syms_len, syms_at hs, hs, hk, hb, hg, rowB, hp]
          | some ts =>
            by_cases hc : (ts.length : Int) = s.ar
            · simp [-getElem?_pos, List.getElem?_cons_zero, ints_cons, ints_len, atomB, h0, e0, e1, h2, h3, h4, syms_len, syms_at hs, hs, hk, hb, hg, rowB, hp, begsM, begs_len, hc]
            · simp [-getElem?_pos, List.getElem?_cons_zero, ints_cons, ints_len, atomB, h0, e0, e1, h2, h3, h4, syms_len, syms_at hs, hs, hk, hb, hg, rowB, hp, begsM, begs_len, hc]
      · simp [-getElem?_pos, List.getElem?_cons_zero, ints_cons, ints_len, atomB, h0, e0, e1, h2, h3, h4, syms_len, syms_at hs, hs, hk]
    · have hs : g[p.toNat]? = none := List.getElem?_eq_none (by omega)
      have h4 : (g.length : Int) ≤ p := by omega
      simp [ints_cons, ints_len, atomB, h0, h2, e0, h4, syms_len, hs]
end Go.Proofs.YtjhganbjbiihoaaDoor.Ab

/- Rows of terms, atoms: what the reference's functions hand back. For every input; no condition. -/
set_option linter.unusedVariables false
set_option linter.unusedSimpArgs false
set_option maxRecDepth 100000
namespace Go.Proofs.YtjhganbjbiihoaaDoor.Ab
open Go Go.Ab Go.Qu Go.Proofs
attribute [local simp] and_assoc
theorem l_rend {g : List Sym} (hg : SigOk g) (z z' : Bool) (e e' : List D) {r : List Int} (hr : r.length < 20000000000000) (x : Nat × Nat) (hx : x.1 ≤ r.length ∧ x.2 ≤ 3 * x.1 + 1) :
    evP F (Go.Ab.W F) (JW F d91 []) d91 [] [1,1,0] [(0, iG z g e), (1, iS z' r e'), (7, iI x.2), (8, iI x.1)] = some (match lenN g (r.drop x.1) x.2 with | some k => .norm [(0, iG z g e), (1, iS z' r e'), (7, iI 0), (8, iI (x.1 + k : Nat))] | none => .ret [(6, iI (-1))]) :=
  blk_fun (F := F) (d := d91) (lk := []) (p := [1,1,0,0,0]) (p0 := [1,1,0]) (id := 0) (by kernel_rfl) (st := fun (x : Nat × Nat) => [(0, iG z g e), (1, iS z' r e'), (7, iI x.2), (8, iI x.1)]) (I := fun x => x.1 ≤ r.length ∧ x.2 ≤ 3 * x.1 + 1) (μ := fun x => r.length - x.1)
    (res := fun x => match lenN g (r.drop x.1) x.2 with | some k => .norm [(0, iG z g e), (1, iS z' r e'), (7, iI 0), (8, iI (x.1 + k : Nat))] | none => .ret [(6, iI (-1))])
    (fun x hx => by
      obtain ⟨i, n⟩ := x
      obtain ⟨h1, h2⟩ := hx
      dsimp only at h1 h2
      by_cases hn : n = 0
      · subst hn
        refine .stop (.exit 0 [(0, iG z g e), (1, iS z' r e'), (7, iI 0), (8, iI i)]) (wpQ_way (q91_l0a _ _ z (syms g) e z' (ints r) e' 0 i _) (by simp)) rfl ?_
        dsimp only
        cases r.drop i <;> simp [lenN, blkO]
      have hn1 : 1 ≤ n := by omega
      have hn2 : 0 < n := by omega
      by_cases hi : i < r.length
      rotate_left
      · have hi' : (r.length : Int) ≤ i := by omega
        refine .stop (.ret [(6, iI (-1))]) (wpQ_way (q91_l0a _ _ z (syms g) e z' (ints r) e' n i _) (by simp [hn2, ints_len, hi', hn])) rfl ?_
        dsimp only
        rw [lenN_end hi hn1]; rfl
      have hi' : ¬ (r.length : Int) ≤ i := by omega
      have hw0 : IntKind.wrap .i64 ((n : Int) - 1) = ((n : Int) - 1) := wr _ (by omega) (by omega)
      have hw3 := wr1 hi (by omega)
      have fin : ∀ {k : Nat}, arOf g (gi r i) = some k → (match lenN g (r.drop (i + 1)) (n + k - 1) with | some k => Out.norm [(0, iG z g e), (1, iS z' r e'), (7, iI 0), (8, iI (i + 1 + k : Nat))] | none => .ret [(6, iI (-1))]) = (match lenN g (r.drop i) n with | some k => Out.norm [(0, iG z g e), (1, iS z' r e'), (7, iI 0), (8, iI (i + k : Nat))] | none => .ret [(6, iI (-1))]) := fun {k} ha => by
        rw [lenN_go hi hn1 ha]
        cases lenN g (r.drop (i + 1)) (n + k - 1) <;> simp; omega
      by_cases h0 : gi r i < 0
      · have c1 : ¬ 0 ≤ gi r i := by omega
        have c3 : ¬ (g.length : Int) ≤ gi r i := by omega
        by_cases h3 : -24 ≤ gi r i
        · have c2 : ¬ gi r i < -24 := by omega
          have ha : arOf g (gi r i) = some 0 := by simp [arOf, h0, h3]
          have hcast : (n : Int) - 1 = ((n + 0 - 1 : Nat) : Int) := by omega
          refine .go (i + 1, n + 0 - 1) (wpQ_way (q91_l0a _ _ z (syms g) e z' (ints r) e' n i _) ?_) ⟨by dsimp only; omega, by dsimp only; omega⟩ (by dsimp only; omega) (fin ha)
          simp [-getElem?_pos, -Int.natCast_add, hn2, ints_len, hi', Go.Ab.ints_at hi, c1, c2, c3, hw0, hw3, syms_len]; omega
        · have c2 : gi r i < -24 := by omega
          refine .stop (.ret [(6, iI (-1))]) (wpQ_way (q91_l0a _ _ z (syms g) e z' (ints r) e' n i _) ?_) rfl (by dsimp only; rw [lenN_no hi hn1 (by simp [arOf, h0, h3])]; rfl)
          simp [-getElem?_pos, hn2, ints_len, hi', Go.Ab.ints_at hi, c2, h3]
      have c1 : 0 ≤ gi r i := by omega
      have c2 : ¬ gi r i < -24 := by omega
      by_cases h4 : gi r i < g.length
      · obtain ⟨s, hs⟩ := at_lt (l := g) (i := (gi r i).toNat) (by omega)
        have hnn := hg.nums _ _ hs
        have c3 : ¬ (g.length : Int) ≤ gi r i := by omega
        by_cases hk : s.kind = 0
        · refine .stop (.ret [(6, iI (-1))]) (wpQ_way (q91_l0a _ _ z (syms g) e z' (ints r) e' n i _) ?_) rfl (by dsimp only; rw [lenN_no hi hn1 (by simp [arOf, h0, hs, hk])]; rfl)
          simp [-getElem?_pos, hn2, ints_len, hi', Go.Ab.ints_at hi, c1, c2, c3, syms_len, syms_at hs, hk]
        · have hw1 : IntKind.wrap .i64 ((n : Int) - 1 + s.ar) = ((n + s.ar.toNat - 1 : Nat) : Int) := by rw [wr _ (by omega) (by omega)]; omega
          have ha : arOf g (gi r i) = some s.ar.toNat := by simp [arOf, h0, hs, hk]
          refine .go (i + 1, n + s.ar.toNat - 1) (wpQ_way (q91_l0a _ _ z (syms g) e z' (ints r) e' n i _) ?_) ⟨by dsimp only; omega, by dsimp only; omega⟩ (by dsimp only; omega) (fin ha)
          simp [-getElem?_pos, -Int.natCast_add, hn2, ints_len, hi', Go.Ab.ints_at hi, c1, c2, c3, syms_len, syms_at hs, hk, hw0, hw1, hw3]
          omega
      · have hs : g[(gi r i).toNat]? = none := List.getElem?_eq_none (by omega)
        have c3 : (g.length : Int) ≤ gi r i := by omega
        refine .stop (.ret [(6, iI (-1))]) (wpQ_way (q91_l0a _ _ z (syms g) e z' (ints r) e' n i _) ?_) rfl (by dsimp only; rw [lenN_no hi hn1 (by simp [arOf, h0, hs])]; rfl)
        simp [-getElem?_pos, hn2, ints_len, hi', Go.Ab.ints_at hi, c1, c2, c3, syms_len]) x hx
theorem w_rend {g : List Sym} (hg : SigOk g) (z z' : Bool) (e e' : List D) {r : List Int} (hr : r.length < 20000000000000) (i : Nat) (hi0 : i ≤ r.length) : C 91 [iG z g e, iS z' r e', iI i] = some (iI (skR g r i 1), [iG z g e, iS z' r e', iI i]) := by
  refine wfn (lk := []) rfl rfl (fnW_way (q91 _ _ z (syms g) e z' (ints r) e' i _) ?_)
  have h1 : evP F (Go.Ab.W F) (JW F d91 []) d91 [] [1,1,0] [(0, iG z g e), (1, iS z' r e'), (7, iI 1), (8, iI i)] = _ := l_rend hg z z' e e' hr (i, 1) ⟨hi0, by dsimp only; omega⟩
  cases hl : lenN g (r.drop i) 1 with
  | none => simp only [hl] at h1; simp [h1, skR, hl]
  | some k => simp only [hl] at h1; simp [h1, skR, hl]
/-- How many terms; -1: it is no row of terms. -/
theorem l_rterms {g : List Sym} (hg : SigOk g) (z z' : Bool) (e e' : List D) {r : List Int} (hr : r.length < 20000000000000) (x : Nat × Nat) (hx : x.2 ≤ r.length ∧ x.1 ≤ x.2) :
    evP F (Go.Ab.W F) (JW F d52 []) d52 [] [1,1,1,0] [(0, iG z g e), (1, iS z' r e'), (5, iI x.1), (6, iI x.2)] = some (match parts g (r.drop x.2) with | some ts => .norm [(0, iG z g e), (1, iS z' r e'), (5, iI (x.1 + ts.length : Nat)), (6, iI r.length)] | none => .ret [(4, iI (-1))]) :=
  blk_fun (F := F) (d := d52) (lk := []) (p := [1,1,1,0,0,0]) (p0 := [1,1,1,0]) (id := 0) (by kernel_rfl) (st := fun (x : Nat × Nat) => [(0, iG z g e), (1, iS z' r e'), (5, iI x.1), (6, iI x.2)]) (I := fun x => x.2 ≤ r.length ∧ x.1 ≤ x.2) (μ := fun x => r.length - x.2)
    (res := fun x => match parts g (r.drop x.2) with | some ts => .norm [(0, iG z g e), (1, iS z' r e'), (5, iI (x.1 + ts.length : Nat)), (6, iI r.length)] | none => .ret [(4, iI (-1))])
    (fun x hx => by
      obtain ⟨n, i⟩ := x
      obtain ⟨h1, h2⟩ := hx
      dsimp only at h1 h2
      by_cases hi : i < r.length
      · have hi' : (i : Int) < r.length := by omega
        have hne : r.drop i ≠ [] := by simp; omega
        have he := w_rend hg z z' e e' hr i h1
        have hw : IntKind.wrap .i64 ((n : Int) + 1) = ((n + 1 : Nat) : Int) := by rw [wr _ (by omega) (by omega)]; omega
        cases hl : lenN g (r.drop i) 1 with
        | none =>
          refine .stop (.ret [(4, iI (-1))]) (wpQ_way (q52_l0a _ _ z (syms g) e z' (ints r) e' n i _) ?_) rfl (by dsimp only; rw [parts_none hne hl]; rfl)
          simp [ints_len, hi, he, skR, hl]
        | some k =>
          have hle := lenN_le hl
          simp at hle
          refine .go (n + 1, i + k) (wpQ_way (q52_l0a _ _ z (syms g) e z' (ints r) e' n i _) ?_) ⟨by dsimp only; omega, by dsimp only; omega⟩ (by dsimp only; omega) ?_
          · simp [-Int.natCast_add, ints_len, hi, he, skR, hl, hw]
          · dsimp only
            rw [parts_some hne hl, List.drop_drop]
            cases parts g (r.drop (i + k)) <;> simp; omega
      · have hir : i = r.length := by omega
        refine .stop (.exit 0 [(0, iG z g e), (1, iS z' r e'), (5, iI n), (6, iI i)]) (wpQ_way (q52_l0a _ _ z (syms g) e z' (ints r) e' n i _) ?_) rfl ?_
        · simp [ints_len, hir]
        · dsimp only
          rw [List.drop_of_length_le (by omega), parts_nil]; simp [blkO, hir]) x hx
def termsM (g : List Sym) (r : List Int) : Int := match rowP g r with | some ts => (ts.length : Int) | none => -1
theorem w_rterms {g : List Sym} (hg : SigOk g) (z z' : Bool) (e e' : List D) (r : List Int) : C 52 [iG z g e, iS z' r e'] = some (iI (termsM g r), [iG z g e, iS z' r e']) := by
  refine wfn (lk := []) rfl rfl (fnW_way (q52 _ _ z (syms g) e z' (ints r) e' _) ?_)
  by_cases hr : r.length ≤ 48
  · have e1 : ¬ 48 < (r.length : Int) := by omega
    have h1 : evP F (Go.Ab.W F) (JW F d52 []) d52 [] [1,1,1,0] [(0, iG z g e), (1, iS z' r e'), (5, iI 0), (6, iI 0)] = some (match parts g r with | some ts => .norm [(0, iG z g e), (1, iS z' r e'), (5, iI (0 + ts.length : Nat)), (6, iI r.length)] | none => .ret [(4, iI (-1))]) := l_rterms hg z z' e e' (r := r) (by omega) (0, 0) ⟨Nat.zero_le _, Nat.le_refl _⟩
    cases hp : parts g r with
    | none => simp only [hp] at h1; simp [ints_len, e1, h1, termsM, rowP, hr, hp]
    | some ts => simp only [hp] at h1; simp [ints_len, e1, h1, termsM, rowP, hr, hp]
  · have e1 : 48 < (r.length : Int) := by omega
    simp [ints_len, e1, termsM, rowP, hr]
/-- Of a signature that may be. -/
theorem w_risatom {g : List Sym} (hg : sigB g = true) (z z' : Bool) (e e' : List D) (a : List Int) : C 90 [iG z g e, iS z' a e'] = some (iB (atomB g a), [iG z g e, iS z' a e']) := by
  refine wfn (lk := []) rfl rfl (fnW_way (q90 _ _ z (syms g) e z' (ints a) e' _) ?_)
  cases a with
  | nil => simp [ints_nil, atomB]
  | cons p r =>
    have e0 : (0 : Int) < (r.length : Int) + 1 := by omega
    by_cases h0 : p < 0
    · have h3 : ¬ 0 ≤ p := by omega
      simp [ints_cons, ints_len, atomB, h0, e0, h3]
    have h3 : 0 ≤ p := by omega
    by_cases h2 : p < g.length
    · obtain ⟨s, hs⟩ := at_lt (l := g) (i := p.toNat) (by omega)
      have e1 : (1 : Int) ≤ (r.length : Int) + 1 := by omega
      have hb := w_rterms (sigOk hg) z z' e [] r
      have hn := (sigOk hg).nums _ _ hs
      by_cases hk : s.kind = 0
      · cases hp : rowP g r with
        | none =>
          have hc : ¬ (-1 = s.ar) := by omega
          simp [-getElem?_pos, List.getElem?_cons_zero, ints_cons, ints_len, atomB, h0, e0, e1, h2, h3, syms_len, syms_at hs, hs, hk, hb, hg, termsM, hp, hc]
        | some ts =>
          by_cases hc : (ts.length : Int) = s.ar
          · simp [-getElem?_pos, List.getElem?_cons_zero, ints_cons, ints_len, atomB, h0, e0, e1, h2, h3, syms_len, syms_at hs, hs, hk, hb, hg, termsM, hp, hc]
          · simp [-getElem?_pos, List.getElem?_cons_zero, ints_cons, ints_len, atomB, h0, e0, e1, h2, h3, syms_len, syms_at hs, hs, hk, hb, hg, termsM, hp, hc]
      · simp [-getElem?_pos, List.getElem?_cons_zero, ints_cons, ints_len, atomB, h0, e0, e1, h2, h3, syms_len, syms_at hs, hs, hk]
    · have hs : g[p.toNat]? = none := List.getElem?_eq_none (by omega)
      simp [ints_cons, ints_len, atomB, h0, e0, h2, h3, syms_len, hs]; omega
end Go.Proofs.YtjhganbjbiihoaaDoor.Ab

/- Rows of numbers: the same, copied, their least, their variables. For every input; no condition. -/
set_option linter.unusedVariables false
set_option linter.unusedSimpArgs false
set_option maxRecDepth 100000
namespace Go.Proofs.YtjhganbjbiihoaaDoor.Ab
open Go Go.Ab Go.Qu Go.Proofs
attribute [local simp] and_assoc
@[simp] theorem w_num (c : Int) : C 20 [iI c] = some (iI c, [iI c]) :=
  wfn (lk := []) rfl rfl (fnW_way (q20 _ _ c _) (by simp))
theorem w_equal {a : List Int} (ha : Len a) (b : List Int) (z z' : Bool) (e e' : List D) : C 41 [iS z a e, iS z' b e'] = some (iB (decide (a = b)), [iS z a e, iS z' b e']) := by
  refine wfn (lk := []) rfl rfl (fnW_way (q41 _ _ z (ints a) e z' (ints b) e' _) ?_)
  have hal := ha.lt
  by_cases hl : a.length = b.length
  rotate_left
  · have e1 : ¬ (a.length : Int) = b.length := by omega
    have e2 : ¬ a = b := fun h => hl (by rw [h])
    simp [ints_len, e1, e2]
  rcases blk_all (F := F) (d := d41) (lk := []) (p := [1,1,0,1,0,0]) (p0 := [1,1,0,1]) (by kernel_rfl) (n := a.length) (id := 0) (st := fun i => [(0, iS z a e), (1, iS z' b e'), (12, iI a.length), (13, iI i)]) (q := fun i => gi a i == gi b i) (rt := [(4, iB false)]) (e := [(0, iS z a e), (1, iS z' b e'), (12, iI a.length), (13, iI a.length)])
    (fun i hi hq => wpQ_way (q41_l0a _ _ z (ints a) e z' (ints b) e' _ i _) (by simp at hq; simp [-getElem?_pos, wr1 hi (by omega), hi, Go.Ab.ints_at hi, Go.Ab.ints_at (hl ▸ hi), hq]))
    (fun i hi hq => wpQ_way (q41_l0a _ _ z (ints a) e z' (ints b) e' _ i _) (by simp at hq; simp [-getElem?_pos, hi, Go.Ab.ints_at hi, Go.Ab.ints_at (hl ▸ hi), hq]))
    (wpQ_way (q41_l0a _ _ z (ints a) e z' (ints b) e' _ a.length _) (by simp)) 0 (Nat.zero_le _) with ⟨h2, h3⟩ | ⟨⟨j, h2, h4, h5⟩, h3⟩
  · have hab : a = b := ints_ext hl (fun i hi => by simpa using h2 i (Nat.zero_le _) hi)
    simp at h3
    simp [-Bool.exists_bool, ints_len, hab]
    rw [hab] at h3
    simp [-Bool.exists_bool, h3]
  · have hab : ¬ a = b := fun h => by rw [h] at h5; simp at h5
    simp at h3
    simp [ints_len, hl, hab]
    rw [hl] at h3
    simp [h3]
theorem w_same {a : List Int} (ha : Len a) (b : List Int) (z z' : Bool) (e e' : List D) : C 71 [iS z a e, iS z' b e'] = some (iB (decide (a = b)), [iS z a e, iS z' b e']) := by
  refine wfn (lk := []) rfl rfl (fnW_way (q71 _ _ z (ints a) e z' (ints b) e' _) ?_)
  have hal := ha.lt
  by_cases hl : a.length = b.length
  rotate_left
  · have e1 : ¬ (a.length : Int) = b.length := by omega
    have e2 : ¬ a = b := fun h => hl (by rw [h])
    simp [ints_len, e1, e2]
  rcases blk_all (F := F) (d := d71) (lk := []) (p := [1,1,0,1,0,0]) (p0 := [1,1,0,1]) (by kernel_rfl) (n := a.length) (id := 0) (st := fun i => [(0, iS z a e), (1, iS z' b e'), (5, iI i)]) (q := fun i => gi a i == gi b i) (rt := [(4, iB false)]) (e := [(0, iS z a e), (1, iS z' b e'), (5, iI a.length)])
    (fun i hi hq => wpQ_way (q71_l0a _ _ z (ints a) e z' (ints b) e' i _) (by simp at hq; simp [-getElem?_pos, ints_len, wr1 hi (by omega), hi, Go.Ab.ints_at hi, Go.Ab.ints_at (hl ▸ hi), hq]))
    (fun i hi hq => wpQ_way (q71_l0a _ _ z (ints a) e z' (ints b) e' i _) (by simp at hq; simp [-getElem?_pos, ints_len, hi, Go.Ab.ints_at hi, Go.Ab.ints_at (hl ▸ hi), hq]))
    (wpQ_way (q71_l0a _ _ z (ints a) e z' (ints b) e' a.length _) (by simp [ints_len])) 0 (Nat.zero_le _) with ⟨h2, h3⟩ | ⟨⟨j, h2, h4, h5⟩, h3⟩
  · have hab : a = b := ints_ext hl (fun i hi => by simpa using h2 i (Nat.zero_le _) hi)
    simp at h3
    simp [-Bool.exists_bool, ints_len, hab]
    rw [hab] at h3
    simp [-Bool.exists_bool, h3]
  · have hab : ¬ a = b := fun h => by rw [h] at h5; simp at h5
    simp at h3
    simp [ints_len, hl, hab]
    simp [h3]
theorem w_sameints {a : List Int} (ha : Len a) (b : List Int) (z z' : Bool) (e e' : List D) : C 21 [iS z a e, iS z' b e'] = some (iB (decide (a = b)), [iS z a e, iS z' b e']) := by
  refine wfn (lk := []) rfl rfl (fnW_way (q21 _ _ z (ints a) e z' (ints b) e' _) ?_)
  have hal := ha.lt
  by_cases hl : a.length = b.length
  rotate_left
  · have e1 : ¬ (a.length : Int) = b.length := by omega
    have e2 : ¬ a = b := fun h => hl (by rw [h])
    simp [ints_len, e1, e2]
  rcases blk_all (F := F) (d := d21) (lk := []) (p := [1,1,0,1,0,0]) (p0 := [1,1,0,1]) (by kernel_rfl) (n := a.length) (id := 0) (st := fun i => [(0, iS z a e), (1, iS z' b e'), (5, iI i)]) (q := fun i => gi a i == gi b i) (rt := [(4, iB false)]) (e := [(0, iS z a e), (1, iS z' b e'), (5, iI a.length)])
    (fun i hi hq => wpQ_way (q21_l0a _ _ z (ints a) e z' (ints b) e' i _) (by simp at hq; simp [-getElem?_pos, ints_len, wr1 hi (by omega), hi, Go.Ab.ints_at hi, Go.Ab.ints_at (hl ▸ hi), hq]))
    (fun i hi hq => wpQ_way (q21_l0a _ _ z (ints a) e z' (ints b) e' i _) (by simp at hq; simp [-getElem?_pos, ints_len, hi, Go.Ab.ints_at hi, Go.Ab.ints_at (hl ▸ hi), hq]))
    (wpQ_way (q21_l0a _ _ z (ints a) e z' (ints b) e' a.length _) (by simp [ints_len])) 0 (Nat.zero_le _) with ⟨h2, h3⟩ | ⟨⟨j, h2, h4, h5⟩, h3⟩
  · have hab : a = b := ints_ext hl (fun i hi => by simpa using h2 i (Nat.zero_le _) hi)
    simp at h3
    simp [-Bool.exists_bool, ints_len, hab]
    rw [hab] at h3
    simp [-Bool.exists_bool, h3]
  · have hab : ¬ a = b := fun h => by rw [h] at h5; simp at h5
    simp at h3
    simp [ints_len, hl, hab]
    simp [h3]
theorem w_copyints {a : List Int} (ha : Len a) (z : Bool) (e : List D) : C 61 [iS z a e] = some (.own false 3 1 (ints a), [iS z a e]) := by
  unfold Len at ha
  refine wfn (lk := []) rfl rfl (fnW_way (q61 _ _ z (ints a) e _) ?_)
  simp [ints_len]
  omega
/-- Rows that are new. -/
def fresh (r : Row) : Row := ⟨false, r.l, []⟩
theorem w_copyrows {rs : List Row} (hn : rs.length * 24 ≤ 140737488351232) (hr : ∀ r ∈ rs, Len r.l) (z : Bool) (e : List D) : C 32 [iR z rs e] = some (.own rs.isEmpty 33 1 (rws (rs.map fresh)), [iR z rs e]) := by
  refine wfn (lk := []) rfl rfl (fnW_way (q32 _ _ z (rws rs) e _) ?_)
  have h1 := blk_fun (F := F) (d := d32) (lk := []) (p := [1,1,0,1,0,0]) (p0 := [1,1,0,1]) (id := 0) (by kernel_rfl) (st := fun (i : Nat) => [(0, iR z rs e), (3, .own (rs.take i).isEmpty 33 1 (rws ((rs.take i).map fresh))), (4, iI i)]) (I := fun i => i ≤ rs.length) (μ := fun i => rs.length - i)
    (res := fun _ => .norm [(0, iR z rs e), (3, .own rs.isEmpty 33 1 (rws (rs.map fresh))), (4, iI rs.length)])
    (fun i hi => by
      by_cases h : i < rs.length
      · obtain ⟨r, hr1⟩ := at_lt h
        have hL := hr r (List.mem_of_getElem? hr1)
        have e1 : rs.take (i + 1) = rs.take i ++ [r] := by rw [List.take_add_one, hr1]; rfl
        refine .go (i + 1) (wpQ_way (q32_l0a _ _ z (rws rs) e _ _ i _) ?_) h (by omega) rfl
        have e2 : min i rs.length = i := by omega
        simp [-getElem?_pos, rws_len, h, rws_at hr1, w_copyints hL, wr1 h (by omega), e1, rws_append, rws_cons, rws_nil, fresh, e2]
        omega
      · have e1 : i = rs.length := by omega
        subst e1
        refine .stop (.exit 0 [(0, iR z rs e), (3, .own rs.isEmpty 33 1 (rws (rs.map fresh))), (4, iI rs.length)]) (wpQ_way (q32_l0a _ _ z (rws rs) e _ _ rs.length _) ?_) rfl rfl
        simp [rws_len]) 0 (Nat.zero_le _)
  simp [rws_nil] at h1
  simp [h1]
theorem w_samerows {a : List Row} (hn : a.length * 24 ≤ 140737488351232) (ha : ∀ r ∈ a, Len r.l) (b : List Row) (z z' : Bool) (e e' : List D) : C 55 [iR z a e, iR z' b e'] = some (iB (decide (a.map (·.l) = b.map (·.l))), [iR z a e, iR z' b e']) := by
  refine wfn (lk := []) rfl rfl (fnW_way (q55 _ _ z (rws a) e z' (rws b) e' _) ?_)
  by_cases hl : a.length = b.length
  rotate_left
  · have e1 : ¬ (a.length : Int) = b.length := by omega
    have e2 : ¬ a.map (·.l) = b.map (·.l) := fun h => hl (by have := congrArg List.length h; simpa using this)
    simp [rws_len, e1, e2]
  rcases blk_all (F := F) (d := d55) (lk := []) (p := [1,1,0,1,0,0]) (p0 := [1,1,0,1]) (by kernel_rfl) (n := a.length) (id := 0) (st := fun i => [(0, iR z a e), (1, iR z' b e'), (5, iI i)]) (q := fun i => (a[i]?.map (·.l)) == (b[i]?.map (·.l))) (rt := [(4, iB false)]) (e := [(0, iR z a e), (1, iR z' b e'), (5, iI a.length)])
    (fun i hi hq => by
      obtain ⟨x, hx⟩ := at_lt hi
      obtain ⟨y, hy⟩ := at_lt (show i < b.length by omega)
      simp [hx, hy] at hq
      exact wpQ_way (q55_l0a _ _ z (rws a) e z' (rws b) e' i _) (by simp [-getElem?_pos, rws_len, wr1 hi (by omega), hi, rws_at hx, rws_at hy, w_sameints (ha x (List.mem_of_getElem? hx)), hq.symm]))
    (fun i hi hq => by
      obtain ⟨x, hx⟩ := at_lt hi
      obtain ⟨y, hy⟩ := at_lt (show i < b.length by omega)
      simp [hx, hy] at hq
      exact wpQ_way (q55_l0a _ _ z (rws a) e z' (rws b) e' i _) (by simp [-getElem?_pos, rws_len, hi, rws_at hx, rws_at hy, w_sameints (ha x (List.mem_of_getElem? hx)), hq]))
    (wpQ_way (q55_l0a _ _ z (rws a) e z' (rws b) e' a.length _) (by simp [rws_len])) 0 (Nat.zero_le _) with ⟨h2, h3⟩ | ⟨⟨j, h2, h4, h5⟩, h3⟩
  · have hab : a.map (·.l) = b.map (·.l) := by
      refine List.ext_getElem? (fun i => ?_)
      by_cases hi : i < a.length
      · have := h2 i (Nat.zero_le _) hi
        simpa using this
      · rw [List.getElem?_eq_none (by simpa using hi), List.getElem?_eq_none (by simp; omega)]
    simp at h3
    simp [rws_len, hl, hab, h3]
  · have hab : ¬ a.map (·.l) = b.map (·.l) := fun h => by
      have := congrArg (·[j]?) h
      simp at this h5
      exact h5 this
    simp at h3
    simp [rws_len, hl, hab, h3]
theorem w_in {a : List Int} (ha : Len a) (z : Bool) (e : List D) (v : Nat) (hv : v ≤ 1000000) : C 99 [iS z a e, iI v] = some (iB (a.contains (-1 - (v : Int))), [iS z a e, iI v]) := by
  have hal := ha.lt
  have hw : IntKind.wrap .i64 (-1 - (v : Int)) = -1 - (v : Int) := wr _ (by omega) (by omega)
  refine wfn (lk := []) rfl rfl (fnW_way (q99 _ _ z (ints a) e v _) ?_)
  rcases blk_find (F := F) (d := d99) (lk := []) (p := [1,0,1,0,0]) (p0 := [1,0,1]) (by kernel_rfl) (n := a.length) (id := 0) (st := fun i => [(0, iS z a e), (1, iI v), (5, iI i)]) (q := fun i => gi a i == -1 - (v : Int)) (rt := fun _ => [(4, iB true)]) (e := [(0, iS z a e), (1, iI v), (5, iI a.length)])
    (fun i hi hq => wpQ_way (q99_l0a _ _ z (ints a) e v i _) (by simp at hq; simp [-getElem?_pos, ints_len, wr1 hi (by omega), hi, Go.Ab.ints_at hi, hw, hq]))
    (fun i hi hq => wpQ_way (q99_l0a _ _ z (ints a) e v i _) (by simp at hq; simp [-getElem?_pos, ints_len, hi, Go.Ab.ints_at hi, hw, hq]))
    (wpQ_way (q99_l0a _ _ z (ints a) e v a.length _) (by simp [ints_len])) 0 (Nat.zero_le _) with ⟨h2, h3⟩ | ⟨j, h1, h2, h4, h5, h3⟩
  · have hc : a.contains (-1 - (v : Int)) = false := by
      rw [List.contains_eq_mem, decide_eq_false_iff_not]
      intro hm
      obtain ⟨i, hi, he⟩ := List.getElem_of_mem hm
      have := h2 i (Nat.zero_le _) hi
      simp [gi, hi] at this
      exact this he
    simp at h3
    simp only [hc]
    simp [h3]
  · have hc : a.contains (-1 - (v : Int)) = true := by
      rw [List.contains_eq_mem, decide_eq_true_iff]
      simp [gi, h2] at h4
      rw [← h4]
      exact List.getElem_mem h2
    simp at h3
    simp only [hc]
    simp [h3]
theorem w_varsof {a : List Int} (ha : Len a) (z : Bool) (e : List D) : C 67 [iS z a e] = some (.own (varsM a).isEmpty 3 1 (ints (varsM a)), [iS z a e]) := by
  refine wfn (lk := []) rfl rfl (fnW_way (q67 _ _ z (ints a) e _) ?_)
  have h1 := fun x hx => blk_fun (F := F) (d := d67) (lk := []) (p := [1,1,0,1,0,0]) (p0 := [1,1,0,1]) (id := 0) (by kernel_rfl) (st := fun (x : List Int × Nat) => [(0, iS z a e), (3, .own x.1.isEmpty 3 1 (ints x.1)), (4, iI x.2)]) (I := fun x => x.2 ≤ 24 ∧ x.1.length ≤ x.2) (μ := fun x => 24 - x.2)
    (res := fun x => .norm [(0, iS z a e), (3, .own (x.1 ++ varsFrom a (24 - x.2) x.2).isEmpty 3 1 (ints (x.1 ++ varsFrom a (24 - x.2) x.2))), (4, iI 24)])
    (fun x hx => by
      obtain ⟨acc, i⟩ := x
      obtain ⟨hx1, hx2⟩ := hx
      dsimp only at hx1 hx2
      by_cases h : i ≤ 23
      · have h' : (i : Int) ≤ 23 := by omega
        have hw : IntKind.wrap .i64 ((i : Int) + 1) = ((i + 1 : Nat) : Int) := by rw [wr _ (by omega) (by omega)]; omega
        have hin := w_in ha z e i (by omega)
        have e1 : 24 - i = (24 - (i + 1)) + 1 := by omega
        cases hc : a.contains (-1 - (i : Int)) with
        | true =>
          rw [hc] at hin
          refine .go (acc ++ [(i : Int)], i + 1) (wpQ_way (q67_l0a _ _ z (ints a) e _ _ i _) ?_) ⟨by dsimp only; omega, by simp; omega⟩ (by dsimp only; omega) ?_
          · simp [-Int.natCast_add, ints_len, h', hin, hw, ints_append, ints_cons, ints_nil]
            omega
          · dsimp only
            rw [e1, varsFrom, hc]; simp
        | false =>
          rw [hc] at hin
          refine .go (acc, i + 1) (wpQ_way (q67_l0a _ _ z (ints a) e _ _ i _) ?_) ⟨by dsimp only; omega, by dsimp only; omega⟩ (by dsimp only; omega) ?_
          · simp [-Int.natCast_add, ints_len, h', hin, hw]
          · dsimp only
            rw [e1, varsFrom, hc]; simp
      · have e1 : i = 24 := by omega
        subst e1
        refine .stop (.exit 0 [(0, iS z a e), (3, .own acc.isEmpty 3 1 (ints acc)), (4, iI 24)]) (wpQ_way (q67_l0a _ _ z (ints a) e _ _ _ _) ?_) rfl ?_
        · simp
        · simp [blkO, varsFrom]) x hx
  have h2 : evP F (Go.Ab.W F) (JW F d67 []) d67 [] [1,1,0,1] [(0, iS z a e), (3, .own true 3 1 []), (4, iI 0)] = _ := h1 ([], 0) ⟨Nat.zero_le _, Nat.le_refl _⟩
  simp only [List.nil_append, Nat.sub_zero] at h2
  simp [h2, varsM]
end Go.Proofs.YtjhganbjbiihoaaDoor.Ab

/- Tables of facts: what may be one, where a fact stands. Plain lists; no condition. -/
set_option linter.unusedVariables false
set_option linter.unusedSimpArgs false
namespace Go.Qu
open Go Go.Ab

def hashF (h : Int) : List Int → Int
  | [] => h
  | c :: a => hashF ((h * 31 + c + 1) % 1009) a
theorem gi_mem {a : List Int} {i : Nat} (h : i < a.length) : gi a i ∈ a := by
  simp only [gi, List.getD_eq_getElem?_getD, List.getElem?_eq_getElem h, Option.getD_some]; exact List.getElem_mem h
theorem lenN_codes {g : List Sym} : ∀ {r : List Int} {n k : Nat}, lenN g r n = some k → ∀ c ∈ r.take k, (arOf g c).isSome = true
  | r, 0, k, h, c, hc => by cases r <;> (simp [lenN] at h; subst h; simp at hc)
  | [], n + 1, k, h, c, hc => by simp [lenN] at h
  | x :: r, n + 1, k, h, c, hc => by
    unfold lenN at h
    split at h
    · cases h
    · rename_i a ha
      obtain ⟨m, hm, rfl⟩ := Option.map_eq_some_iff.1 h
      rw [List.take_succ_cons] at hc
      rcases List.mem_cons.1 hc with rfl | hc
      · rw [ha]; rfl
      · exact lenN_codes hm c hc
theorem parts_codes {g : List Sym} : ∀ (n : Nat) (r : List Int) {ts : List (List Int)}, r.length ≤ n → parts g r = some ts → ∀ c ∈ r, (arOf g c).isSome = true
  | n, [], ts, hn, h, c, hc => by simp at hc
  | 0, x :: r, ts, hn, h, c, hc => by simp at hn
  | n + 1, x :: r, ts, hn, h, c, hc => by
    cases hl : lenN g (x :: r) 1 with
    | none => rw [parts_none (by simp) hl] at h; cases h
    | some k =>
      rw [parts_some (by simp) hl] at h
      obtain ⟨us, h1, rfl⟩ := Option.map_eq_some_iff.1 h
      have h2 := lenN_le hl
      have hsplit : c ∈ (x :: r).take k ∨ c ∈ (x :: r).drop k := by
        rw [← List.mem_append, List.take_append_drop]; exact hc
      rcases hsplit with hc | hc
      · exact lenN_codes hl c hc
      · exact parts_codes n _ (by simp at hn ⊢; omega) h1 c hc
theorem arOf_lt {g : List Sym} {c : Int} (h : (arOf g c).isSome = true) : -24 ≤ c ∧ c < g.length := by
  unfold arOf at h
  split at h
  · split at h
    · omega
    · cases h
  · split at h
    · cases h
    · rename_i s hs
      have := lt_at hs
      omega
/-- The codes of an atom. -/
theorem atom_codes {g : List Sym} {a : List Int} (h : atomB g a = true) : a.length ≤ 49 ∧ (∀ c ∈ a, -24 ≤ c ∧ c < g.length) ∧ g.length ≤ 20 := by
  cases a with
  | nil => simp [atomB] at h
  | cons p r =>
    simp only [atomB] at h
    split at h
    · cases h
    · rename_i hp
      split at h
      · cases h
      · rename_i s hs
        simp only [Bool.and_eq_true] at h
        obtain ⟨⟨h1, h2⟩, h3⟩ := h
        have hl := lt_at hs
        have hg := sigOk h2
        unfold rowP at h3
        by_cases hr : r.length ≤ 48
        · rw [if_pos hr] at h3
          cases hps : parts g r with
          | none => rw [hps] at h3; cases h3
          | some ts =>
            refine ⟨by simp; omega, fun c hc => ?_, hg.hi⟩
            rcases List.mem_cons.1 hc with rfl | hc
            · omega
            · exact arOf_lt (parts_codes _ r (Nat.le_refl _) hps c hc)
        · rw [if_neg hr] at h3; cases h3
/-! ### Where a fact stands -/
/-! ### The reference's words -/
/-! ### For the walks -/
def bls (l : List Bool) : List D := l.map D.bool
end Go.Qu

/- Literals, clauses: what may be, what they weigh. Plain lists; no condition. -/
set_option linter.unusedVariables false
set_option linter.unusedSimpArgs false
namespace Go.Qu
open Go Go.Ab

structure LitR where
  neg : Bool
  r : Row
def LitR.d (l : LitR) : D := .agg [.bool l.neg, .sl 1 l.r.z (ints l.r.l) l.r.e]
def lits (ls : List LitR) : List D := ls.map LitR.d
abbrev iL (z : Bool) (ls : List LitR) (e : List D) : IV := .d (.sl 2 z (lits ls) e)
abbrev iLit (b : Bool) (z : Bool) (l : List Int) (e : List D) : IV := .d (.agg [.bool b, .sl 1 z (ints l) e])
theorem lits_len (l : List LitR) : (lits l).length = l.length := by simp [lits]
theorem lits_at {l : List LitR} {i : Nat} {s : LitR} (h : l[i]? = some s) : (lits l)[i]? = some (.agg [.bool s.neg, .sl 1 s.r.z (ints s.r.l) s.r.e]) := by simp [lits, h, LitR.d]
theorem lits_nil : lits [] = [] := rfl
theorem lits_cons (x : LitR) (l : List LitR) : lits (x :: l) = .agg [.bool x.neg, .sl 1 x.r.z (ints x.r.l) x.r.e] :: lits l := rfl
theorem lits_append (l m : List LitR) : lits (l ++ m) = lits l ++ lits m := by simp [lits]
/-- A clause as it lies in memory. -/
structure Cl where
  lz : Bool
  ls : List LitR
  le : List D
  tz : Bool
  ts : List Row
  te : List D
  cz : Bool
  cs : List LitR
  ce : List D
abbrev Cl.d (c : Cl) : D := .agg [.sl 2 c.lz (lits c.ls) c.le, .sl 1 c.tz (rws c.ts) c.te, .sl 2 c.cz (lits c.cs) c.ce]
abbrev iC (c : Cl) : IV := .d (.agg [.sl 2 c.lz (lits c.ls) c.le, .sl 1 c.tz (rws c.ts) c.te, .sl 2 c.cz (lits c.cs) c.ce])
/-! ### What may be -/
def litsB (g : List Sym) (ls : List LitR) : Bool := ls.all fun l => atomB g l.r.l
def lenL : List LitR → Nat
  | [] => 0
  | l :: ls => l.r.l.length + lenL ls
def lenR : List Row → Nat
  | [] => 0
  | r :: rs => r.l.length + lenR rs
def termsN (g : List Sym) (r : List Int) : Nat := (begsM g r).length
def rowsF (g : List Sym) (k : Nat) (ts : List Row) : Bool := ts.all fun r => rowB g r.l && (termsN g r.l == k)
def rowsB (g : List Sym) (ts : List Row) : Bool := match ts with
  | [] => true
  | r :: _ => rowsF g (termsN g r.l) ts
def clB (g : List Sym) (c : Cl) : Bool := sigB g && (decide (c.ls.length ≤ 5) && (decide (c.ts.length ≤ 3) && (decide (c.cs.length ≤ 3) && (litsB g c.ls && (rowsB g c.ts && (litsB g c.cs && decide (lenL c.ls + lenR c.ts + lenL c.cs ≤ 240)))))))
theorem lenL_le {g : List Sym} : ∀ {ls : List LitR}, litsB g ls = true → lenL ls ≤ 49 * ls.length
  | [], h => by simp [lenL]
  | l :: ls, h => by
    simp only [litsB, List.all_cons, Bool.and_eq_true] at h
    have h1 := (atom_codes h.1).1
    have h2 := lenL_le (ls := ls) h.2
    simp [lenL]; omega
theorem rowB_len {g : List Sym} {r : List Int} (h : rowB g r = true) : r.length ≤ 48 := by
  simp only [rowB, Bool.and_eq_true, rowP] at h
  by_cases h1 : r.length ≤ 48
  · exact h1
  · rw [if_neg h1] at h; simp at h
theorem lenR_le {g : List Sym} {k : Nat} : ∀ {ts : List Row}, rowsF g k ts = true → lenR ts ≤ 48 * ts.length
  | [], h => by simp [lenR]
  | r :: ts, h => by
    simp only [rowsF, List.all_cons, Bool.and_eq_true] at h
    have h1 := rowB_len h.1.1
    have h2 := lenR_le (ts := ts) (k := k) h.2
    simp [lenR]; omega
/-! ### What they weigh -/
def codeW (g : List Sym) (c : Int) : Int := if c < 0 then 1 else match g[c.toNat]? with | some s => s.wt | none => 0
def sumW (g : List Sym) : List Int → Int
  | [] => 0
  | c :: r => codeW g c + sumW g r
/-- Codes that a signature knows. -/
def Known (g : List Sym) (r : List Int) : Prop := ∀ c ∈ r, c < g.length
theorem atom_known {g : List Sym} {a : List Int} (h : atomB g a = true) : Known g a := fun c hc => ((atom_codes h).2.1 c hc).2
theorem codeW_le {g : List Sym} (hg : SigOk g) (c : Int) (h : c < g.length) : 1 ≤ codeW g c ∧ codeW g c ≤ 20 := by
  unfold codeW
  split
  · omega
  · obtain ⟨s, hs⟩ := at_lt (l := g) (i := c.toNat) (by omega)
    rw [hs]
    have := hg.nums _ _ hs
    dsimp only; omega
theorem sumW_le {g : List Sym} (hg : SigOk g) : ∀ (r : List Int), Known g r → (r.length : Int) ≤ sumW g r ∧ sumW g r ≤ 20 * r.length
  | [], h => by simp [sumW]
  | c :: r, h => by
    have h1 := codeW_le hg c (h c (by simp))
    have h2 := sumW_le hg r (fun x hx => h x (by simp [hx]))
    simp only [sumW, List.length_cons]; omega
end Go.Qu

/- Rows of terms: how deep they are, which variables they have, what joining and cutting does. Plain lists, no program in sight; no condition. -/
set_option linter.unusedVariables false
set_option linter.unusedSimpArgs false
namespace Go.Qu
open Go Go.Ab
theorem lenN_cons {g : List Sym} {c : Int} {r : List Int} {n a : Nat} (ha : arOf g c = some a) : lenN g (c :: r) (n + 1) = (lenN g r (n + a)).map (· + 1) := by
  simp [lenN, ha]
theorem lenN_some {g : List Sym} {c : Int} {r : List Int} {n k : Nat} (h : lenN g (c :: r) (n + 1) = some k) : ∃ a m, arOf g c = some a ∧ lenN g r (n + a) = some m ∧ k = m + 1 := by
  unfold lenN at h
  split at h
  · cases h
  · rename_i a ha
    obtain ⟨m, hm, rfl⟩ := Option.map_eq_some_iff.1 h
    exact ⟨a, m, ha, hm, rfl⟩
theorem lenN_app {g : List Sym} : ∀ {r : List Int} {n k : Nat} (s : List Int), lenN g r n = some k → lenN g (r ++ s) n = some k
  | r, 0, k, s, h => by
    have e : k = 0 := by cases r <;> simp [lenN] at h <;> omega
    subst e
    cases r ++ s <;> simp [lenN]
  | [], n + 1, k, s, h => by simp [lenN] at h
  | c :: r, n + 1, k, s, h => by
    obtain ⟨a, m, ha, hm, rfl⟩ := lenN_some h
    rw [List.cons_append, lenN_cons ha, lenN_app s hm]; rfl
theorem lenN_take {g : List Sym} : ∀ {r : List Int} {n k : Nat}, lenN g r n = some k → lenN g (r.take k) n = some k
  | r, 0, k, h => by
    have e : k = 0 := by cases r <;> simp [lenN] at h <;> omega
    subst e
    cases r <;> simp [lenN]
  | [], n + 1, k, h => by simp [lenN] at h
  | c :: r, n + 1, k, h => by
    obtain ⟨a, m, ha, hm, rfl⟩ := lenN_some h
    rw [List.take_succ_cons, lenN_cons ha, lenN_take hm]; rfl
theorem lenN_split {g : List Sym} : ∀ {r : List Int} {n k : Nat} (m : Nat), lenN g r n = some k → lenN g r (n + m) = (lenN g (r.drop k) m).map (k + ·)
  | r, 0, k, m, h => by
    have e : k = 0 := by cases r <;> simp [lenN] at h <;> omega
    subst e
    simp
  | [], n + 1, k, m, h => by simp [lenN] at h
  | c :: r, n + 1, k, m, h => by
    obtain ⟨a, j, ha, hm, rfl⟩ := lenN_some h
    rw [show n + 1 + m = (n + m) + 1 by omega, lenN_cons ha, show n + m + a = (n + a) + m by omega, lenN_split m hm, List.drop_succ_cons]
    cases lenN g (r.drop j) m <;> simp; omega
theorem lenN_first {g : List Sym} {r : List Int} {n k : Nat} (h : lenN g r (n + 1) = some k) : ∃ k1 k2, lenN g r 1 = some k1 ∧ lenN g (r.drop k1) n = some k2 ∧ k = k1 + k2 := by
  have : ∃ k1, lenN g r 1 = some k1 := by
    have hgen : ∀ (r : List Int) (i j : Nat) {k : Nat}, lenN g r (i + j) = some k → ∃ k1, lenN g r i = some k1 := by
      intro r
      induction r with
      | nil =>
        intro i j k h
        cases i with
        | zero => exact ⟨0, rfl⟩
        | succ i => rw [show i + 1 + j = (i + j) + 1 by omega] at h; simp [lenN] at h
      | cons c r ih =>
        intro i j k h
        cases i with
        | zero => exact ⟨0, rfl⟩
        | succ i =>
          rw [show i + 1 + j = (i + j) + 1 by omega] at h
          obtain ⟨a, m, ha, hm, rfl⟩ := lenN_some h
          rw [show i + j + a = (i + a) + j by omega] at hm
          obtain ⟨k1, hk⟩ := ih (i + a) j hm
          exact ⟨k1 + 1, by rw [lenN_cons ha, hk]; rfl⟩
    exact hgen r 1 n (by rw [Nat.add_comm]; exact h)
  obtain ⟨k1, h1⟩ := this
  have h2 := lenN_split n h1
  rw [Nat.add_comm 1 n, h] at h2
  cases h3 : lenN g (r.drop k1) n with
  | none => rw [h3] at h2; cases h2
  | some k2 => rw [h3] at h2; simp at h2; exact ⟨k1, k2, h1, h3, h2⟩
/-! ### Rows -/
theorem parts_one {g : List Sym} {r : List Int} {k : Nat} (h : lenN g r 1 = some k) : parts g (r.take k) = some [r.take k] := by
  have hle := lenN_le h
  have hne : r.take k ≠ [] := by
    intro e
    have := congrArg List.length e
    rw [List.length_take] at this; simp only [List.length_nil] at this; omega
  rw [parts_some hne (lenN_take h)]
  have e1 : (r.take k).drop k = [] := List.drop_of_length_le (by simp; omega)
  have e2 : (r.take k).take k = r.take k := List.take_of_length_le (by simp; omega)
  rw [e1, e2, parts_nil]; rfl
/-- A row begins with a term, and the others follow. -/
theorem parts_cases {g : List Sym} {r : List Int} {ts : List (List Int)} (h : parts g r = some ts) : (r = [] ∧ ts = []) ∨ ∃ k us, lenN g r 1 = some k ∧ parts g (r.drop k) = some us ∧ ts = r.take k :: us ∧ r ≠ [] := by
  by_cases hr : r = []
  · subst hr; rw [parts_nil] at h; cases h; exact Or.inl ⟨rfl, rfl⟩
  · cases hl : lenN g r 1 with
    | none => rw [parts_none hr hl] at h; cases h
    | some k =>
      rw [parts_some hr hl] at h
      obtain ⟨us, h1, rfl⟩ := Option.map_eq_some_iff.1 h
      exact Or.inr ⟨k, us, rfl, h1, rfl, hr⟩
theorem parts_all {g : List Sym} : ∀ (n : Nat) {r : List Int} {ts : List (List Int)}, r.length ≤ n → parts g r = some ts → lenN g r ts.length = some r.length
  | n, r, ts, hn, h => by
    rcases parts_cases h with ⟨rfl, rfl⟩ | ⟨k, vs, hl, hv, rfl, hne⟩
    · rfl
    · have hle := lenN_le hl
      match n, hn with
      | 0, hn => exact absurd (List.length_eq_zero_iff.1 (Nat.le_zero.1 hn)) hne
      | n + 1, hn =>
        have h1 := parts_all n (r := r.drop k) (by simp; omega) hv
        have h2 := lenN_split vs.length hl
        rw [h1] at h2
        rw [List.length_cons, Nat.add_comm, h2]
        simp; omega
theorem rowB_parts {g : List Sym} {r : List Int} (h : rowB g r = true) : sigB g = true ∧ r.length ≤ 48 ∧ ∃ ts, parts g r = some ts ∧ rowP g r = some ts := by
  simp only [rowB, Bool.and_eq_true, rowP] at h
  by_cases h1 : r.length ≤ 48
  · rw [if_pos h1] at h
    obtain ⟨ts, hts⟩ := Option.isSome_iff_exists.1 h.2
    exact ⟨h.1, h1, ts, hts, by simp [rowP, h1, hts]⟩
  · rw [if_neg h1] at h; simp at h
theorem termsN_no {g : List Sym} {r : List Int} (h : rowB g r = false) : termsN g r = 0 := by
  simp only [rowB, Bool.and_eq_false_iff] at h
  unfold termsN begsM
  rcases h with h | h
  · simp [h]
  · cases hp : rowP g r with
    | none => simp
    | some ts => rw [hp] at h; simp at h
theorem row_codes {g : List Sym} {r : List Int} (h : rowB g r = true) : ∀ c ∈ r, -24 ≤ c ∧ c < g.length := by
  obtain ⟨hg, hr, ts, hts, _⟩ := rowB_parts h
  intro c hc
  exact arOf_lt (parts_codes _ r (Nat.le_refl _) hts c hc)
theorem row_len {g : List Sym} {r : List Int} (h : rowB g r = true) : Len r := by
  have := (rowB_parts h).2.1
  unfold Len; omega
/-! ### How deep -/
theorem tkX_ints {n : Nat} {r : List Int} (h : n ≤ r.length) (e : List D) : tkX n (ints r) e = ints (r.take n) := by
  rw [tkX_eq _ _ _ (.inr (by rw [ints_len]; exact h)), List.take_append_of_le_length (by rw [ints_len]; exact h)]
  simp [ints]
theorem ints_drop (n : Nat) (r : List Int) : (ints r).drop n = ints (r.drop n) := by simp [ints]
/-! ### Which variables -/
abbrev Up (l : List Int) : Prop := l.Pairwise (· < ·)
def lowS (vs : List Int) (v : Int) : Nat := (vs.takeWhile (fun x => decide (x < v))).length
def insS (vs : List Int) (v : Int) : List Int := if v ∈ vs then vs else vs.take (lowS vs v) ++ v :: vs.drop (lowS vs v)
def seenF : List Int → List Int → List Int
  | vs, [] => vs
  | vs, c :: r => seenF (if c < 0 then insS vs (-1 - c) else vs) r
theorem low_spec : ∀ {vs : List Int} (v : Int), Up vs → (∀ x ∈ vs.take (lowS vs v), x < v) ∧ (∀ x ∈ vs.drop (lowS vs v), v ≤ x) ∧ lowS vs v ≤ vs.length
  | [], v, h => by simp [lowS]
  | x :: vs, v, h => by
    obtain ⟨h1, h2⟩ := List.pairwise_cons.1 h
    obtain ⟨i1, i2, i3⟩ := low_spec (vs := vs) v h2
    by_cases hx : x < v
    · have e : lowS (x :: vs) v = lowS vs v + 1 := by simp [lowS, hx]
      rw [e, List.take_succ_cons, List.drop_succ_cons]
      refine ⟨fun y hy => ?_, i2, by simp; omega⟩
      rcases List.mem_cons.1 hy with rfl | hy
      · exact hx
      · exact i1 y hy
    · have e : lowS (x :: vs) v = 0 := by simp [lowS, hx]
      rw [e]
      refine ⟨by simp, fun y hy => ?_, by simp⟩
      rcases List.mem_cons.1 (by simpa using hy) with rfl | hy
      · omega
      · have := h1 y hy; omega
theorem mem_ins {vs : List Int} {v x : Int} : x ∈ insS vs v ↔ x ∈ vs ∨ x = v := by
  unfold insS
  split
  · rename_i h
    constructor
    · exact Or.inl
    · rintro (h1 | rfl)
      · exact h1
      · exact h
  · constructor
    · intro h
      rcases List.mem_append.1 h with h | h
      · exact Or.inl (List.mem_of_mem_take h)
      · rcases List.mem_cons.1 h with rfl | h
        · exact Or.inr rfl
        · exact Or.inl (List.mem_of_mem_drop h)
    · rintro (h | rfl)
      · rw [← List.take_append_drop (lowS vs v) vs] at h
        rcases List.mem_append.1 h with h | h
        · exact List.mem_append_left _ h
        · exact List.mem_append_right _ (List.mem_cons_of_mem _ h)
      · exact List.mem_append_right _ (List.mem_cons_self ..)
theorem up_ins {vs : List Int} {v : Int} (h : Up vs) : Up (insS vs v) := by
  unfold insS
  split
  · exact h
  · rename_i hv
    obtain ⟨h1, h2, h3⟩ := low_spec v h
    have h0 := h
    rw [← List.take_append_drop (lowS vs v) vs, Up, List.pairwise_append] at h0
    obtain ⟨a1, a2, a3⟩ := h0
    rw [Up, List.pairwise_append]
    refine ⟨a1, List.pairwise_cons.2 ⟨fun x hx => ?_, a2⟩, fun x hx y hy => ?_⟩
    · have hx2 := h2 x hx
      have : x ≠ v := fun e => hv (e ▸ List.mem_of_mem_drop hx)
      omega
    · rcases List.mem_cons.1 hy with rfl | hy
      · exact h1 x hx
      · exact a3 x hx y hy
theorem mem_seen : ∀ {r vs : List Int} {x : Int}, x ∈ seenF vs r ↔ x ∈ vs ∨ (0 ≤ x ∧ (-1 - x) ∈ r)
  | [], vs, x => by simp [seenF]
  | c :: r, vs, x => by
    rw [seenF, mem_seen (r := r)]
    by_cases hc : c < 0
    · rw [if_pos hc, mem_ins, List.mem_cons]
      constructor
      · rintro ((h | rfl) | ⟨h1, h2⟩)
        · exact Or.inl h
        · exact Or.inr ⟨by omega, Or.inl (by omega)⟩
        · exact Or.inr ⟨h1, Or.inr h2⟩
      · rintro (h | ⟨h1, h2 | h2⟩)
        · exact Or.inl (Or.inl h)
        · exact Or.inl (Or.inr (by omega))
        · exact Or.inr ⟨h1, h2⟩
    · rw [if_neg hc, List.mem_cons]
      constructor
      · rintro (h | ⟨h1, h2⟩)
        · exact Or.inl h
        · exact Or.inr ⟨h1, Or.inr h2⟩
      · rintro (h | ⟨h1, h2 | h2⟩)
        · exact Or.inl h
        · omega
        · exact Or.inr ⟨h1, h2⟩
theorem up_seen : ∀ {r vs : List Int}, Up vs → Up (seenF vs r)
  | [], vs, h => h
  | c :: r, vs, h => by
    rw [seenF]
    refine up_seen (r := r) ?_
    split
    · exact up_ins h
    · exact h
theorem mem_varsFrom {r : List Int} : ∀ {k v : Nat} {x : Int}, x ∈ varsFrom r k v ↔ (v : Int) ≤ x ∧ x < ((v + k : Nat) : Int) ∧ (-1 - x) ∈ r
  | 0, v, x => by
    simp only [varsFrom, List.not_mem_nil, false_iff]
    rintro ⟨h1, h2, h3⟩; omega
  | k + 1, v, x => by
    rw [varsFrom]
    have ih := mem_varsFrom (r := r) (k := k) (v := v + 1) (x := x)
    split
    · rename_i h
      simp at h
      rw [List.mem_cons, ih]
      constructor
      · rintro (rfl | ⟨h1, h2, h3⟩)
        · exact ⟨by omega, by omega, h⟩
        · exact ⟨by omega, by omega, h3⟩
      · rintro ⟨h1, h2, h3⟩
        by_cases e : x = v
        · exact Or.inl e
        · exact Or.inr ⟨by omega, by omega, h3⟩
    · rename_i h
      simp at h
      rw [ih]
      constructor
      · rintro ⟨h1, h2, h3⟩; exact ⟨by omega, by omega, h3⟩
      · rintro ⟨h1, h2, h3⟩
        have e : x ≠ v := by rintro rfl; exact h h3
        exact ⟨by omega, by omega, h3⟩
theorem up_varsFrom {r : List Int} : ∀ {k v : Nat}, Up (varsFrom r k v)
  | 0, v => List.Pairwise.nil
  | k + 1, v => by
    rw [varsFrom]
    split
    · refine List.pairwise_cons.2 ⟨fun x hx => ?_, up_varsFrom⟩
      have := (mem_varsFrom.1 hx).1
      omega
    · exact up_varsFrom
theorem up_ext : ∀ {a b : List Int}, Up a → Up b → (∀ x, x ∈ a ↔ x ∈ b) → a = b
  | [], [], _, _, _ => rfl
  | [], y :: b, _, _, h => by have := (h y).2 (by simp); simp at this
  | x :: a, [], _, _, h => by have := (h x).1 (by simp); simp at this
  | x :: a, y :: b, ha, hb, h => by
    obtain ⟨a1, a2⟩ := List.pairwise_cons.1 ha
    obtain ⟨b1, b2⟩ := List.pairwise_cons.1 hb
    have e : x = y := by
      have h1 := (h x).1 (by simp)
      have h2 := (h y).2 (by simp)
      rcases List.mem_cons.1 h1 with h1 | h1
      · exact h1
      · rcases List.mem_cons.1 h2 with h2 | h2
        · exact h2.symm
        · have := a1 y h2; have := b1 x h1; omega
    subst e
    rw [up_ext a2 b2 (fun z => ?_)]
    constructor
    · intro hz
      rcases List.mem_cons.1 ((h z).1 (by simp [hz])) with rfl | h1
      · have := a1 z hz; omega
      · exact h1
    · intro hz
      rcases List.mem_cons.1 ((h z).2 (by simp [hz])) with rfl | h1
      · have := b1 z hz; omega
      · exact h1
theorem seen_vars {r : List Int} (h : ∀ c ∈ r, -24 ≤ c) : seenF [] r = varsM r := by
  refine up_ext (up_seen List.Pairwise.nil) up_varsFrom (fun x => ?_)
  rw [mem_seen, varsM, mem_varsFrom]
  constructor
  · rintro (h1 | ⟨h1, h2⟩)
    · simp at h1
    · exact ⟨by omega, by have := h _ h2; omega, h2⟩
  · rintro ⟨h1, h2, h3⟩
    exact Or.inr ⟨by omega, h3⟩
theorem up_gi : ∀ {vs : List Int}, Up vs → ∀ {i j : Nat}, i < j → j < vs.length → gi vs i < gi vs j
  | vs, h, i, j, hij, hj => by
    have h1 := List.pairwise_iff_getElem.1 h i j (by omega) hj hij
    simpa [gi, hj, show i < vs.length by omega] using h1
theorem low_of : ∀ {vs : List Int} {v : Int} (i : Nat), i ≤ vs.length → (∀ k, k < i → gi vs k < v) → (∀ k, i ≤ k → k < vs.length → v ≤ gi vs k) → lowS vs v = i
  | [], v, i, h, h1, h2 => by simp at h; simp [lowS, h]
  | x :: vs, v, 0, h, h1, h2 => by
    have h3 := h2 0 (Nat.le_refl _) (by simp)
    simp [gi] at h3
    have h4 : ¬ x < v := by omega
    simp [lowS, h4]
  | x :: vs, v, i + 1, h, h1, h2 => by
    have h3 := h1 0 (by omega)
    simp [gi] at h3
    have e : lowS (x :: vs) v = lowS vs v + 1 := by simp [lowS, h3]
    rw [e, low_of (vs := vs) (v := v) i (by simpa using h) (fun k hk => by simpa [gi] using h1 (k + 1) (by omega)) (fun k hk hk2 => by simpa [gi] using h2 (k + 1) (by omega) (by simp; omega))]
theorem low_le : ∀ {vs : List Int} {v : Int}, lowS vs v ≤ vs.length
  | vs, v => (List.takeWhile_sublist _).length_le
theorem low_mem {vs : List Int} {v : Int} (h : Up vs) : v ∈ vs ↔ lowS vs v < vs.length ∧ gi vs (lowS vs v) = v := by
  obtain ⟨h1, h2, h3⟩ := low_spec v h
  constructor
  · intro hv
    rw [← List.take_append_drop (lowS vs v) vs] at hv
    rcases List.mem_append.1 hv with hv | hv
    · have := h1 v hv; omega
    · have hlt : lowS vs v < vs.length := by
        rcases Nat.lt_or_ge (lowS vs v) vs.length with hl | hl
        · exact hl
        · rw [List.drop_of_length_le hl] at hv; simp at hv
      refine ⟨hlt, ?_⟩
      rw [gi_drop hlt] at hv h2
      rcases List.mem_cons.1 hv with hv | hv
      · exact hv.symm
      · have h4 := h2 _ (List.mem_cons_self ..)
        obtain ⟨j, hj, he⟩ := List.getElem_of_mem hv
        simp at hj
        have h5 := up_gi h (i := lowS vs v) (j := lowS vs v + 1 + j) (by omega) (by omega)
        have h6 : gi vs (lowS vs v + 1 + j) = v := by
          rw [List.getElem_drop] at he
          simp [gi, show lowS vs v + 1 + j < vs.length by omega, he]
        omega
  · rintro ⟨h4, h5⟩
    rw [← h5]
    exact gi_mem h4
theorem ins_len {vs : List Int} {v : Int} : (insS vs v).length ≤ vs.length + 1 := by
  unfold insS
  split
  · omega
  · simp; omega
end Go.Qu

/- Rows of terms: what the program's and the reference's exported functions hand back. For every input; no condition. -/
set_option linter.unusedVariables false
set_option linter.unusedSimpArgs false
set_option maxRecDepth 100000
namespace Go.Proofs.YtjhganbjbiihoaaDoor.Ab
open Go Go.Ab Go.Qu Go.Proofs
attribute [local simp] and_assoc
theorem w_row (z z' : Bool) (g : List Sym) (e e' : List D) (r : List Int) : C 87 [iG z g e, iS z' r e'] = some (.tup [iI (termsN g r), iI (if rowB g r = true then 0 else 200)], [iG z g e, iS z' r e']) := by
  refine wfn (lk := []) rfl rfl (fnW_way (q87 _ _ z (syms g) e z' (ints r) e' _) ?_)
  have h1 := w_begins z z' g e e' r
  cases h : rowB g r
  · simp [-Bool.exists_bool, h1, h, termsN_no h]
  · simp [-Bool.exists_bool, h1, h, ints_len, termsN]
theorem w_sum {g : List Sym} (hg : SigOk g) {r : List Int} (hr : Len r) (hk : Known g r) (z z' : Bool) (e e' : List D) : C 33 [iG z g e, iS z' r e'] = some (iI (sumW g r), [iG z g e, iS z' r e']) := by
  have hrl := hr.lt
  refine wfn (lk := []) rfl rfl (fnW_way (q33 _ _ z (syms g) e z' (ints r) e' _) ?_)
  have h1 := fun x hx => blk_fun (F := F) (d := d33) (lk := []) (p := [1,1,0,1,0,0]) (p0 := [1,1,0,1]) (id := 0) (by kernel_rfl) (st := fun (x : Nat × Int) => [(0, iG z g e), (5, iI x.2), (8, iS z' r e'), (9, iI r.length), (10, iI x.1)]) (I := fun x => x.1 ≤ r.length ∧ 0 ≤ x.2 ∧ x.2 ≤ 20 * x.1) (μ := fun x => r.length - x.1)
    (res := fun x => .norm [(0, iG z g e), (5, iI (x.2 + sumW g (r.drop x.1))), (8, iS z' r e'), (9, iI r.length), (10, iI r.length)])
    (fun x hx => by
      obtain ⟨i, k⟩ := x
      obtain ⟨hx1, hx2, hx3⟩ := hx
      dsimp only at hx1 hx2 hx3
      by_cases hi : i < r.length
      · have hc := hk _ (gi_mem hi)
        have hcw := codeW_le hg _ hc
        have hi' : (i : Int) < r.length := by omega
        have hw : IntKind.wrap .i64 (k + codeW g (gi r i)) = k + codeW g (gi r i) := wr _ (by omega) (by omega)
        refine .go (i + 1, k + codeW g (gi r i)) (wpQ_way (q33_l0a _ _ z (syms g) e k z' (ints r) e' _ i _) ?_) ⟨by dsimp only; omega, by dsimp only; omega, by dsimp only; omega⟩ (by dsimp only; omega) ?_
        · by_cases h0 : gi r i < 0
          · have e1 : codeW g (gi r i) = 1 := by simp [codeW, h0]
            have h0n : ¬ 0 ≤ gi r i := by omega
            rw [e1] at hw ⊢
            simp [-Bool.exists_bool, -getElem?_pos, -Int.natCast_add, hi', Go.Ab.ints_at hi, h0, h0n, hw, wr1 hi (by omega)]
          · have h0' : 0 ≤ gi r i := by omega
            obtain ⟨s, hs⟩ := at_lt (l := g) (i := (gi r i).toNat) (by omega)
            have e1 : codeW g (gi r i) = s.wt := by simp [codeW, h0, hs]
            rw [e1] at hw ⊢
            simp [-Bool.exists_bool, -getElem?_pos, -Int.natCast_add, hi', Go.Ab.ints_at hi, h0, h0', syms_at hs, hw, wr1 hi (by omega)]
        · dsimp only
          rw [gi_drop hi, sumW, Int.add_assoc]
      · have e1 : i = r.length := by omega
        subst e1
        refine .stop (.exit 0 [(0, iG z g e), (5, iI k), (8, iS z' r e'), (9, iI r.length), (10, iI r.length)]) (wpQ_way (q33_l0a _ _ z (syms g) e k z' (ints r) e' _ _ _) (by simp)) rfl ?_
        simp [blkO, sumW]) x hx
  have h2 : evP F (Go.Ab.W F) (JW F d33 []) d33 [] [1,1,0,1] [(0, iG z g e), (5, iI 0), (8, iS z' r e'), (9, iI r.length), (10, iI 0)] = _ := h1 (0, 0) ⟨Nat.zero_le _, by decide, by decide⟩
  rw [List.drop_zero, Int.zero_add] at h2
  simp [-Bool.exists_bool, ints_len, h2]
theorem w_heavy {g : List Sym} (hg : SigOk g) {r : List Int} (hr : Len r) (hk : Known g r) (z z' : Bool) (e e' : List D) : C 62 [iG z g e, iS z' r e'] = some (iI (sumW g r), [iG z g e, iS z' r e']) := by
  have hrl := hr.lt
  refine wfn (lk := []) rfl rfl (fnW_way (q62 _ _ z (syms g) e z' (ints r) e' _) ?_)
  have h1 := fun x hx => blk_fun (F := F) (d := d62) (lk := []) (p := [1,1,0,1,0,0]) (p0 := [1,1,0,1]) (id := 0) (by kernel_rfl) (st := fun (x : Nat × Int) => [(0, iG z g e), (1, iS z' r e'), (5, iI x.2), (6, iI x.1)]) (I := fun x => x.1 ≤ r.length ∧ 0 ≤ x.2 ∧ x.2 ≤ 20 * x.1) (μ := fun x => r.length - x.1)
    (res := fun x => .norm [(0, iG z g e), (1, iS z' r e'), (5, iI (x.2 + sumW g (r.drop x.1))), (6, iI r.length)])
    (fun x hx => by
      obtain ⟨i, k⟩ := x
      obtain ⟨hx1, hx2, hx3⟩ := hx
      dsimp only at hx1 hx2 hx3
      by_cases hi : i < r.length
      · have hc := hk _ (gi_mem hi)
        have hcw := codeW_le hg _ hc
        have hi' : (i : Int) < r.length := by omega
        have hw : IntKind.wrap .i64 (k + codeW g (gi r i)) = k + codeW g (gi r i) := wr _ (by omega) (by omega)
        refine .go (i + 1, k + codeW g (gi r i)) (wpQ_way (q62_l0a _ _ z (syms g) e z' (ints r) e' k i _) ?_) ⟨by dsimp only; omega, by dsimp only; omega, by dsimp only; omega⟩ (by dsimp only; omega) ?_
        · by_cases h0 : gi r i < 0
          · have e1 : codeW g (gi r i) = 1 := by simp [codeW, h0]
            have h0n : ¬ 0 ≤ gi r i := by omega
            rw [e1] at hw ⊢
            simp [-Bool.exists_bool, -getElem?_pos, -Int.natCast_add, ints_len, hi', Go.Ab.ints_at hi, h0, h0n, hw, wr1 hi (by omega)]
          · have h0' : 0 ≤ gi r i := by omega
            obtain ⟨s, hs⟩ := at_lt (l := g) (i := (gi r i).toNat) (by omega)
            have e1 : codeW g (gi r i) = s.wt := by simp [codeW, h0, hs]
            rw [e1] at hw ⊢
            simp [-Bool.exists_bool, -getElem?_pos, -Int.natCast_add, ints_len, hi', Go.Ab.ints_at hi, h0, h0', syms_at hs, hw, wr1 hi (by omega)]
        · dsimp only
          rw [gi_drop hi, sumW, Int.add_assoc]
      · have e1 : i = r.length := by omega
        subst e1
        refine .stop (.exit 0 [(0, iG z g e), (1, iS z' r e'), (5, iI k), (6, iI r.length)]) (wpQ_way (q62_l0a _ _ z (syms g) e z' (ints r) e' k _ _) (by simp [ints_len])) rfl ?_
        simp [blkO, sumW]) x hx
  have h2 : evP F (Go.Ab.W F) (JW F d62 []) d62 [] [1,1,0,1] [(0, iG z g e), (1, iS z' r e'), (5, iI 0), (6, iI 0)] = _ := h1 (0, 0) ⟨Nat.zero_le _, by decide, by decide⟩
  rw [List.drop_zero, Int.zero_add] at h2
  simp [-Bool.exists_bool, h2]
/-! ### Numbers that rise -/
theorem w_isnan (c : Int) : C 96 [iI c] = some (iB false, [iI c]) :=
  wfn (lk := []) rfl rfl (fnW_way (q96 _ _ c _) (by simp))
theorem w_cisnan (c : Int) : C 113 [iI c] = some (iB false, [iI c]) :=
  wfn (lk := []) rfl rfl (fnW_way (q113 _ _ c _) (by simp))
theorem w_less (a b : Int) : C 95 [iI a, iI b] = some (iB (decide (a < b)), [iI a, iI b]) := by
  refine wfn (lk := []) rfl rfl (fnW_way (q95 _ _ a b _) ?_)
  by_cases h : a < b <;> simp [-Bool.exists_bool, w_cisnan, h]
theorem w_binsearch {vs : List Int} (hu : Up vs) (hl : vs.length ≤ 1000000) (z : Bool) (e : List D) (v : Int) : C 64 [iS z vs e, iI v] = some (.tup [iI (lowS vs v), iB (decide (v ∈ vs))], [iS z vs e, iI v]) := by
  refine wfn (lk := []) rfl rfl (fnW_way (q64 _ _ z (ints vs) e v _) ?_)
  have h1 := fun x hx => blk_fun (F := F) (d := d64) (lk := []) (p := [1,1,1,0,0,0]) (p0 := [1,1,1,0]) (id := 0) (by kernel_rfl) (st := fun (x : Nat × Nat) => [(0, iS z vs e), (1, iI v), (6, iI vs.length), (7, iI x.1), (8, iI x.2)]) (I := fun x => x.1 ≤ x.2 ∧ x.2 ≤ vs.length ∧ (∀ k, k < x.1 → gi vs k < v) ∧ (∀ k, x.2 ≤ k → k < vs.length → v ≤ gi vs k)) (μ := fun x => x.2 - x.1)
    (res := fun _ => .norm [(0, iS z vs e), (1, iI v), (6, iI vs.length), (7, iI (lowS vs v)), (8, iI (lowS vs v))])
    (fun x hx => by
      obtain ⟨i, j⟩ := x
      obtain ⟨hx1, hx2, hx3, hx4⟩ := hx
      dsimp only at hx1 hx2 hx3 hx4
      by_cases h : i < j
      · have hw : IntKind.wrap .i64 (IntKind.wrap .u64 (IntKind.wrap .i64 ((i : Int) + j)) / 2 ^ min (Int.toNat 1) (IntKind.bits .u64)) = (((i + j) / 2 : Nat) : Int) := by
          have e1 : IntKind.wrap .i64 ((i : Int) + j) = ((i + j : Nat) : Int) := by rw [wr _ (by omega) (by omega)]; omega
          have e2 : IntKind.wrap .u64 (((i + j : Nat) : Int)) = ((i + j : Nat) : Int) := by
            simp [IntKind.wrap, IntKind.bits, IntKind.signed]; omega
          have e3 : (2 : Int) ^ min (Int.toNat 1) (IntKind.bits .u64) = 2 := by decide
          rw [e1, e2, e3, wr _ (by omega) (by omega)]; omega
        have hm : (i + j) / 2 < vs.length := by omega
        have hc := w_less (gi vs ((i + j) / 2)) v
        have hw2 : IntKind.wrap .i64 ((((i + j) / 2 : Nat) : Int) + 1) = (((i + j) / 2 + 1 : Nat) : Int) := by rw [wr _ (by omega) (by omega)]; omega
        have h' : (i : Int) < j := by omega
        by_cases hv : gi vs ((i + j) / 2) < v
        · refine .go ((i + j) / 2 + 1, j) (wpQ_way (q64_l0a _ _ z (ints vs) e v _ i j _) ?_) ⟨by dsimp only; omega, hx2, fun k hk => ?_, hx4⟩ (by dsimp only; omega) rfl
          · rw [hw, hw2, Int.toNat_natCast, Go.Ab.ints_at hm]
            simp [-Bool.exists_bool, -getElem?_pos, h, hc, hv]
            omega
          · rcases Nat.lt_or_ge k ((i + j) / 2) with h5 | h5
            · have := up_gi hu h5 hm; omega
            · have : k = (i + j) / 2 := by dsimp only at hk; omega
              rw [this]; exact hv
        · refine .go (i, (i + j) / 2) (wpQ_way (q64_l0a _ _ z (ints vs) e v _ i j _) ?_) ⟨by dsimp only; omega, by dsimp only; omega, hx3, fun k hk hk2 => ?_⟩ (by dsimp only; omega) rfl
          · rw [hw, hw2, Int.toNat_natCast, Go.Ab.ints_at hm]
            simp [-Bool.exists_bool, -getElem?_pos, h, hc, hv]
            omega
          · rcases Nat.lt_or_ge ((i + j) / 2) k with h5 | h5
            · have := up_gi hu h5 hk2; omega
            · have : k = (i + j) / 2 := by dsimp only at hk; omega
              rw [this]; omega
      · have e1 : j = i := by omega
        subst e1
        have e2 : lowS vs v = j := low_of j hx2 hx3 hx4
        refine .stop (.exit 0 [(0, iS z vs e), (1, iI v), (6, iI vs.length), (7, iI j), (8, iI j)]) (wpQ_way (q64_l0a _ _ z (ints vs) e v _ j j _) ?_) rfl ?_
        · simp
        · rw [e2]; rfl) x hx
  have h2 : evP F (Go.Ab.W F) (JW F d64 []) d64 [] [1,1,1,0] [(0, iS z vs e), (1, iI v), (6, iI vs.length), (7, iI 0), (8, iI vs.length)] = _ := h1 (0, vs.length) ⟨Nat.zero_le _, Nat.le_refl _, fun k hk => absurd hk (Nat.not_lt_zero _), fun k hk hk2 => absurd hk2 (by dsimp only at hk; omega)⟩
  have hmem := low_mem (v := v) hu
  by_cases h3 : lowS vs v < vs.length
  · by_cases h4 : gi vs (lowS vs v) = v
    · have h5 : v ∈ vs := hmem.2 ⟨h3, h4⟩
      simp [-Bool.exists_bool, -getElem?_pos, ints_len, h2, h3, h4, h5, Go.Ab.ints_at h3]
    · have h5 : ¬ v ∈ vs := fun h => h4 (hmem.1 h).2
      simp [-Bool.exists_bool, -getElem?_pos, ints_len, h2, h3, h4, h5, Go.Ab.ints_at h3, w_isnan]
  · have h5 : ¬ v ∈ vs := fun h => h3 (hmem.1 h).1
    simp [-Bool.exists_bool, ints_len, h2, h3, h5]
/-! ### The reference's -/
end Go.Proofs.YtjhganbjbiihoaaDoor.Ab

/- Clauses in their own form: each part once, variables numbered anew; what they are the same in. Plain lists; no condition. -/
set_option linter.unusedVariables false
set_option linter.unusedSimpArgs false
namespace Go.Qu
open Go Go.Ab

/-! ### Each once -/
/-- Rows of things of which none has the key of one ahead of it. -/
def onceK {α β : Type} [DecidableEq β] (k : α → β) : List α → List α → List α
  | out, [] => out
  | out, x :: r => if k x ∈ out.map k then onceK k out r else onceK k (out ++ [x]) r
theorem once_map {α β : Type} [DecidableEq β] (k : α → β) : ∀ (r out : List α), (onceK k out r).map k = onceK id (out.map k) (r.map k)
  | [], out => by simp [onceK]
  | x :: r, out => by
    simp only [onceK, List.map_cons, id_eq, List.map_id]
    by_cases h : k x ∈ out.map k
    · rw [if_pos h, if_pos (by simpa using h)]; exact once_map k r out
    · rw [if_neg h, if_neg (by simpa using h), once_map k r (out ++ [x])]; simp
theorem mem_once {β : Type} [DecidableEq β] : ∀ (r out : List β) (y : β), y ∈ onceK id out r ↔ y ∈ out ∨ y ∈ r
  | [], out, y => by simp [onceK]
  | x :: r, out, y => by
    simp only [onceK, id_eq, List.map_id]
    by_cases h : x ∈ out
    · rw [if_pos (by simpa using h), mem_once r out y]
      constructor
      · rintro (h1 | h1)
        · exact .inl h1
        · exact .inr (by simp [h1])
      · rintro (h1 | h1)
        · exact .inl h1
        · rcases List.mem_cons.1 h1 with h2 | h2
          · exact .inl (h2 ▸ h)
          · exact .inr h2
    · rw [if_neg (by simpa using h), mem_once r (out ++ [x]) y]; simp [or_assoc]
theorem once_len {α β : Type} [DecidableEq β] (k : α → β) : ∀ (r out : List α), (onceK k out r).length ≤ out.length + r.length
  | [], out => by simp [onceK]
  | x :: r, out => by
    simp only [onceK]
    split
    · have := once_len k r out; simp; omega
    · have := once_len k r (out ++ [x]); simp at this ⊢; omega
theorem once_sub {α β : Type} [DecidableEq β] (k : α → β) : ∀ (r out : List α) (y : α), y ∈ onceK k out r → y ∈ out ∨ y ∈ r
  | [], out, y, h => by simpa [onceK] using h
  | x :: r, out, y, h => by
    simp only [onceK] at h
    split at h
    · rcases once_sub k r out y h with h | h
      · exact .inl h
      · exact .inr (by simp [h])
    · rcases once_sub k r _ y h with h | h
      · simp at h; rcases h with h | h
        · exact .inl h
        · exact .inr (by simp [h])
      · exact .inr (by simp [h])
/-! ### Variables numbered anew -/
def addS (s : List Int) (c : Int) : List Int := if 0 ≤ c then s else if c ∈ s then s else s ++ [c]
def seenR (s : List Int) (r : List Int) : List Int := r.foldl addS s
def seenRs (s : List Int) (rs : List (List Int)) : List Int := rs.foldl seenR s
def renC (s : List Int) (c : Int) : Int := if 0 ≤ c then c else -1 - (s.idxOf c : Nat)
def renR (s : List Int) (r : List Int) : List Int := r.map (renC s)
theorem mem_addS {s : List Int} {c x : Int} : x ∈ addS s c ↔ x ∈ s ∨ (x = c ∧ c < 0) := by
  unfold addS
  split
  · constructor
    · exact .inl
    · rintro (h | ⟨h, h1⟩)
      · exact h
      · omega
  · split
    · constructor
      · exact .inl
      · rintro (h | ⟨h, h1⟩)
        · exact h
        · subst h; assumption
    · simp; constructor
      · rintro (h | h)
        · exact .inl h
        · exact .inr ⟨h, by omega⟩
      · rintro (h | ⟨h, h1⟩)
        · exact .inl h
        · exact .inr h
theorem mem_seenR : ∀ {r s : List Int} {x : Int}, x ∈ seenR s r ↔ x ∈ s ∨ (x ∈ r ∧ x < 0)
  | [], s, x => by simp [seenR]
  | c :: r, s, x => by
    have := mem_seenR (r := r) (s := addS s c) (x := x)
    rw [show seenR s (c :: r) = seenR (addS s c) r from rfl, this, mem_addS]
    constructor
    · rintro ((h | ⟨h, h1⟩) | ⟨h, h1⟩)
      · exact .inl h
      · exact .inr ⟨by simp [h], by omega⟩
      · exact .inr ⟨by simp [h], h1⟩
    · rintro (h | ⟨h, h1⟩)
      · exact .inl (.inl h)
      · rcases List.mem_cons.1 h with h2 | h2
        · exact .inl (.inr ⟨h2, by omega⟩)
        · exact .inr ⟨h2, h1⟩
theorem mem_seenRs : ∀ {rs : List (List Int)} {s : List Int} {x : Int}, x ∈ seenRs s rs ↔ x ∈ s ∨ (x < 0 ∧ ∃ r ∈ rs, x ∈ r)
  | [], s, x => by simp [seenRs]
  | r :: rs, s, x => by
    have := mem_seenRs (rs := rs) (s := seenR s r) (x := x)
    rw [show seenRs s (r :: rs) = seenRs (seenR s r) rs from rfl, this, mem_seenR]
    constructor
    · rintro ((h | ⟨h, h1⟩) | ⟨h1, t, ht, h⟩)
      · exact .inl h
      · exact .inr ⟨h1, r, by simp, h⟩
      · exact .inr ⟨h1, t, by simp [ht], h⟩
    · rintro (h | ⟨h1, t, ht, h⟩)
      · exact .inl (.inl h)
      · rcases List.mem_cons.1 ht with h2 | h2
        · subst h2; exact .inl (.inr ⟨h, h1⟩)
        · exact .inr ⟨h1, t, h2, h⟩
theorem nodup_addS {s : List Int} {c : Int} (h : s.Nodup) : (addS s c).Nodup := by
  unfold addS
  split
  · exact h
  · split
    · exact h
    · rename_i h1
      rw [List.nodup_append]
      exact ⟨h, by simp, fun a ha b hb => by simp at hb; subst hb; exact fun e => h1 (e ▸ ha)⟩
theorem nodup_seenR : ∀ {r s : List Int}, s.Nodup → (seenR s r).Nodup
  | [], s, h => h
  | c :: r, s, h => nodup_seenR (r := r) (nodup_addS h)
theorem nodup_seenRs : ∀ {rs : List (List Int)} {s : List Int}, s.Nodup → (seenRs s rs).Nodup
  | [], s, h => h
  | r :: rs, s, h => nodup_seenRs (rs := rs) (nodup_seenR h)
/-- What is seen later stands behind. -/
theorem pre_addS (s : List Int) (c : Int) : ∃ t, addS s c = s ++ t := by
  unfold addS
  split
  · exact ⟨[], by simp⟩
  · split
    · exact ⟨[], by simp⟩
    · exact ⟨_, rfl⟩
theorem pre_seenR : ∀ (r s : List Int), ∃ t, seenR s r = s ++ t
  | [], s => ⟨[], by simp [seenR]⟩
  | c :: r, s => by
    obtain ⟨t, ht⟩ := pre_addS s c
    obtain ⟨u, hu⟩ := pre_seenR r (addS s c)
    exact ⟨t ++ u, by rw [show seenR s (c :: r) = seenR (addS s c) r from rfl, hu, ht, List.append_assoc]⟩
theorem pre_seenRs : ∀ (rs : List (List Int)) (s : List Int), ∃ t, seenRs s rs = s ++ t
  | [], s => ⟨[], by simp [seenRs]⟩
  | r :: rs, s => by
    obtain ⟨t, ht⟩ := pre_seenR r s
    obtain ⟨u, hu⟩ := pre_seenRs rs (seenR s r)
    exact ⟨t ++ u, by rw [show seenRs s (r :: rs) = seenRs (seenR s r) rs from rfl, hu, ht, List.append_assoc]⟩
theorem idx_pre {s : List Int} (t : List Int) {c : Int} (h : c ∈ s) : (s ++ t).idxOf c = s.idxOf c := by
  rw [List.idxOf_append, if_pos h]
theorem ren_pre {s : List Int} (t : List Int) {c : Int} (h : c < 0 → c ∈ s) : renC (s ++ t) c = renC s c := by
  unfold renC
  split
  · rfl
  · rw [idx_pre t (h (by omega))]
theorem renR_pre {s : List Int} (t : List Int) {r : List Int} (h : ∀ c ∈ r, c < 0 → c ∈ s) : renR (s ++ t) r = renR s r :=
  List.map_congr_left fun c hc => ren_pre t (h c hc)
/-- The first so many variables. -/
def firsts (n : Nat) : List Int := (List.range n).map fun (i : Nat) => -1 - (i : Int)
theorem firsts_len (n : Nat) : (firsts n).length = n := by simp [firsts]
theorem mem_firsts {n : Nat} {c : Int} : c ∈ firsts n ↔ c < 0 ∧ -1 - c < n := by
  simp only [firsts, List.mem_map, List.mem_range]
  constructor
  · rintro ⟨i, hi, h⟩; omega
  · intro h; exact ⟨(-1 - c).toNat, by omega, by omega⟩
end Go.Qu

/- The normal clause: it may be, it is its own normal one, it weighs no more, its variables are the first ones. Plain lists; no condition. -/
set_option linter.unusedVariables false
set_option linter.unusedSimpArgs false
namespace Go.Qu
open Go Go.Ab

theorem sub_len {α : Type} [DecidableEq α] : ∀ (s t : List α), s.Nodup → (∀ x ∈ s, x ∈ t) → s.length ≤ t.length
  | [], t, _, _ => Nat.zero_le _
  | x :: s, t, hn, hs => by
    have hx := hs x (by simp)
    rw [List.nodup_cons] at hn
    have h1 := sub_len s (t.erase x) hn.2 (fun y hy => by
      have hne : y ≠ x := fun e => hn.1 (e ▸ hy)
      exact (List.mem_erase_of_ne hne).2 (hs y (by simp [hy])))
    rw [List.length_erase_of_mem hx] at h1
    have := List.length_pos_of_mem hx
    simp; omega
abbrev LC := Bool × List Int
def LitR.c (l : LitR) : LC := (l.neg, l.r.l)
structure CC where
  ls : List LC
  ts : List (List Int)
  cs : List LC
deriving DecidableEq
def Cl.c (c : Cl) : CC := ⟨c.ls.map LitR.c, c.ts.map (·.l), c.cs.map LitR.c⟩
def CC.rows (c : CC) : List (List Int) := c.ls.map (·.2) ++ c.ts ++ c.cs.map (·.2)
def onceC (c : CC) : CC := ⟨onceK id [] c.ls, onceK id [] c.ts, onceK id [] c.cs⟩
def renL (s : List Int) (l : LC) : LC := (l.1, renR s l.2)
def renCC (s : List Int) (c : CC) : CC := ⟨c.ls.map (renL s), c.ts.map (renR s), c.cs.map (renL s)⟩
def seenC (c : CC) : List Int := seenRs [] (onceC c).rows
def normC (c : CC) : CC := renCC (seenC c) (onceC c)
/-! ### What may be -/
def lenI : List (List Int) → Nat
  | [] => 0
  | r :: rs => r.length + lenI rs
def termsB (g : List Sym) (k : Nat) (ts : List (List Int)) : Bool := ts.all fun r => rowB g r && (termsN g r == k)
def tsB (g : List Sym) (ts : List (List Int)) : Bool := match ts with
  | [] => true
  | r :: _ => termsB g (termsN g r) ts
def lsB (g : List Sym) (ls : List LC) : Bool := ls.all fun l => atomB g l.2
def clC (g : List Sym) (c : CC) : Bool := sigB g && (decide (c.ls.length ≤ 5) && (decide (c.ts.length ≤ 3) && (decide (c.cs.length ≤ 3) && (lsB g c.ls && (tsB g c.ts && (lsB g c.cs && decide (lenI c.rows ≤ 240)))))))
theorem lenI_app : ∀ (a b : List (List Int)), lenI (a ++ b) = lenI a + lenI b
  | [], b => by simp [lenI]
  | r :: a, b => by simp [lenI, lenI_app a b]; omega
theorem lenL_c : ∀ (ls : List LitR), lenL ls = lenI ((ls.map LitR.c).map (·.2))
  | [] => rfl
  | l :: ls => by simp [lenL, lenI, lenL_c ls, LitR.c]
theorem lenR_c : ∀ (ts : List Row), lenR ts = lenI (ts.map (·.l))
  | [] => rfl
  | l :: ls => by simp [lenR, lenI, lenR_c ls]
theorem clB_c (g : List Sym) (c : Cl) : clB g c = clC g c.c := by
  have h1 : lenL c.ls + lenR c.ts + lenL c.cs = lenI c.c.rows := by
    rw [CC.rows, lenI_app, lenI_app, lenL_c, lenR_c, lenL_c]; rfl
  have h2 : rowsB g c.ts = tsB g (c.ts.map (·.l)) := by
    cases h : c.ts with
    | nil => rfl
    | cons r ts => simp [rowsB, tsB, rowsF, termsB, List.all_map, Function.comp_def]
  unfold clB clC
  rw [h1, h2]
  simp [Cl.c, litsB, lsB, List.all_map, Function.comp_def, LitR.c]
structure ClOk (g : List Sym) (c : CC) : Prop where
  sg : sigB g = true
  l5 : c.ls.length ≤ 5
  t3 : c.ts.length ≤ 3
  c3 : c.cs.length ≤ 3
  la : ∀ l ∈ c.ls, atomB g l.2 = true
  tr : ∃ k, ∀ r ∈ c.ts, rowB g r = true ∧ termsN g r = k
  ca : ∀ l ∈ c.cs, atomB g l.2 = true
  sum : lenI c.rows ≤ 240
theorem clOk {g : List Sym} {c : CC} : clC g c = true ↔ ClOk g c := by
  unfold clC
  simp only [Bool.and_eq_true, decide_eq_true_eq]
  constructor
  · rintro ⟨h1, h2, h3, h4, h5, h6, h7, h8⟩
    refine ⟨h1, h2, h3, h4, by simpa [lsB] using h5, ?_, by simpa [lsB] using h7, h8⟩
    cases h : c.ts with
    | nil => exact ⟨0, by simp⟩
    | cons r ts =>
      rw [h] at h6
      refine ⟨termsN g r, fun x hx => ?_⟩
      have := List.all_eq_true.1 h6 x hx
      simpa using this
  · rintro ⟨h1, h2, h3, h4, h5, ⟨k, h6⟩, h7, h8⟩
    refine ⟨h1, h2, h3, h4, by simpa [lsB] using h5, ?_, by simpa [lsB] using h7, h8⟩
    cases h : c.ts with
    | nil => rfl
    | cons r ts =>
      rw [h] at h6
      refine List.all_eq_true.2 fun x hx => ?_
      have := h6 x hx
      have := h6 r (by simp)
      simp_all
/-- Codes in rows of a clause that may be. -/
theorem cl_codes {g : List Sym} {c : CC} (h : ClOk g c) : ∀ r ∈ c.rows, ∀ x ∈ r, -24 ≤ x ∧ x < g.length := by
  intro r hr x hx
  rw [CC.rows, List.mem_append, List.mem_append] at hr
  rcases hr with (hr | hr) | hr
  · obtain ⟨l, hl, rfl⟩ := List.mem_map.1 hr
    exact (atom_codes (h.la l hl)).2.1 x hx
  · obtain ⟨k, hk⟩ := h.tr
    exact row_codes (hk r hr).1 x hx
  · obtain ⟨l, hl, rfl⟩ := List.mem_map.1 hr
    exact (atom_codes (h.ca l hl)).2.1 x hx
theorem mem_onceC {c : CC} {r : List Int} : r ∈ (onceC c).rows ↔ r ∈ c.rows := by
  simp only [CC.rows, onceC, List.mem_append, List.mem_map, mem_once, List.not_mem_nil, false_or]
theorem mem_seenC {c : CC} {x : Int} : x ∈ seenC c ↔ x < 0 ∧ ∃ r ∈ c.rows, x ∈ r := by
  rw [seenC, mem_seenRs]
  simp only [List.not_mem_nil, false_or, mem_onceC]
theorem seenC_nodup (c : CC) : (seenC c).Nodup := nodup_seenRs List.nodup_nil
theorem seenC_len {g : List Sym} {c : CC} (h : ClOk g c) : (seenC c).length ≤ 24 := by
  have := sub_len (seenC c) (firsts 24) (seenC_nodup c) (fun x hx => by
    obtain ⟨h1, r, hr, h2⟩ := mem_seenC.1 hx
    have := cl_codes h r hr x h2
    exact mem_firsts.2 ⟨h1, by omega⟩)
  rwa [firsts_len] at this
/-! ### Rows with other variables -/
/-! ### Its own normal one -/
/-! ### Weight, variables -/
def wtL (g : List Sym) : List LC → Int
  | [] => 0
  | l :: ls => sumW g l.2 + wtL g ls
theorem wtL_app (g : List Sym) : ∀ (a b : List LC), wtL g (a ++ b) = wtL g a + wtL g b
  | [], b => by simp [wtL]
  | l :: a, b => by simp [wtL, wtL_app g a b]; omega
/-- The variables of rows, as they rise. -/
def varsC (rs : List (List Int)) : List Int := rs.foldl seenF []
theorem mem_folds : ∀ {rs : List (List Int)} {vs : List Int} {x : Int}, x ∈ rs.foldl seenF vs ↔ x ∈ vs ∨ (0 ≤ x ∧ ∃ r ∈ rs, (-1 - x) ∈ r)
  | [], vs, x => by simp
  | r :: rs, vs, x => by
    rw [List.foldl_cons, mem_folds (rs := rs), mem_seen]
    constructor
    · rintro ((h | h) | ⟨h1, t, ht, h⟩)
      · exact .inl h
      · exact .inr ⟨h.1, r, by simp, h.2⟩
      · exact .inr ⟨h1, t, by simp [ht], h⟩
    · rintro (h | ⟨h1, t, ht, h⟩)
      · exact .inl (.inl h)
      · rcases List.mem_cons.1 ht with h2 | h2
        · subst h2; exact .inl (.inr ⟨h1, h⟩)
        · exact .inr ⟨h1, t, h2, h⟩
theorem up_folds : ∀ {rs : List (List Int)} {vs : List Int}, Up vs → Up (rs.foldl seenF vs)
  | [], vs, h => h
  | r :: rs, vs, h => up_folds (rs := rs) (up_seen h)
theorem vars_mem {rs : List (List Int)} {x : Int} : x ∈ varsC rs ↔ 0 ≤ x ∧ ∃ r ∈ rs, (-1 - x) ∈ r := by
  rw [varsC, mem_folds]; simp
/-- The variables do not hang on the rows' order. -/
theorem vars_ext {rs us : List (List Int)} (h : ∀ r, r ∈ rs ↔ r ∈ us) : varsC rs = varsC us :=
  up_ext (up_folds List.Pairwise.nil) (up_folds List.Pairwise.nil) fun x => by
    show x ∈ varsC rs ↔ x ∈ varsC us
    rw [vars_mem, vars_mem]; simp only [h]
theorem up_nodup {l : List Int} (h : Up l) : l.Nodup := h.imp fun hab e => by subst e; omega
theorem vars_flat {rs : List (List Int)} (h : ∀ r ∈ rs, ∀ c ∈ r, -24 ≤ c) : varsC rs = varsM rs.flatten := by
  have h1 : ∀ c ∈ rs.flatten, -24 ≤ c := fun c hc => by
    obtain ⟨r, hr, hc⟩ := List.mem_flatten.1 hc
    exact h r hr c hc
  rw [← seen_vars h1]
  refine up_ext (up_folds List.Pairwise.nil) (up_seen List.Pairwise.nil) fun x => ?_
  show x ∈ varsC rs ↔ _
  rw [vars_mem, mem_seen]
  simp [List.mem_flatten]
theorem vars_seen (c : CC) {x : Int} : x ∈ varsC c.rows ↔ 0 ≤ x ∧ (-1 - x) ∈ seenC c := by
  rw [vars_mem, mem_seenC]
  constructor
  · rintro ⟨h, r, hr⟩; exact ⟨h, by omega, r, hr⟩
  · rintro ⟨h, _, r, hr⟩; exact ⟨h, r, hr⟩
theorem vars_len (c : CC) : (varsC c.rows).length = (seenC c).length := by
  apply Nat.le_antisymm
  · have h1 : ((varsC c.rows).map fun x => -1 - x).Nodup := by
      have := up_nodup (l := varsC c.rows) (up_folds List.Pairwise.nil)
      rw [List.nodup_iff_pairwise_ne] at *
      exact List.pairwise_map.2 (this.imp fun h => by omega)
    have := sub_len _ (seenC c) h1 (fun x hx => by
      obtain ⟨y, hy, rfl⟩ := List.mem_map.1 hx
      exact ((vars_seen c).1 hy).2)
    rwa [List.length_map] at this
  · have h1 : ((seenC c).map fun x => -1 - x).Nodup := by
      have := seenC_nodup c
      rw [List.nodup_iff_pairwise_ne] at *
      exact List.pairwise_map.2 (this.imp fun h => by omega)
    have := sub_len _ (varsC c.rows) h1 (fun x hx => by
      obtain ⟨y, hy, rfl⟩ := List.mem_map.1 hx
      have := (mem_seenC.1 hy).1
      refine (vars_seen c).2 ⟨by omega, ?_⟩
      rw [show (-1 - (-1 - y) : Int) = y by omega]; exact hy)
    rwa [List.length_map] at this
end Go.Qu

/- Rows that become others: what stands for each variable, and the search for it. Plain lists; no condition. -/
set_option linter.unusedVariables false
set_option linter.unusedSimpArgs false
namespace Go.Qu
open Go Go.Ab

/-- What stands for each variable, as far as something does. -/
abbrev Bs := Nat → Option (List Int)
def Bs.upd (s : Bs) (v : Nat) (t : List Int) : Bs := fun w => if w = v then some t else s w
/-- Whatever stands in one stands in the other. -/
def Bs.le (s u : Bs) : Prop := ∀ v t, s v = some t → u v = some t
theorem Bs.le_refl (s : Bs) : s.le s := fun _ _ h => h
theorem Bs.le_trans {s u w : Bs} (h : s.le u) (h' : u.le w) : s.le w := fun v t e => h' v t (h v t e)
theorem Bs.le_upd {s : Bs} {v : Nat} (t : List Int) (h : s v = none) : s.le (s.upd v t) := fun w u e => by
  unfold Bs.upd
  split
  · rename_i h1; subst h1; rw [h] at e; cases e
  · exact e
/-! ### The search -/
/-- A part: its codes, and which ones it may become: their places, what they are. -/
structure Pt where
  codes : List Int
  cand : List (Nat × List Int)
/-! ### To say as much -/
end Go.Qu

/- Which term is more: where it is put in, with terms put in, through a third one. Plain lists; no condition. -/
set_option linter.unusedVariables false
set_option linter.unusedSimpArgs false
namespace Go.Qu
open Go Go.Ab

/-- How often a code stands. -/
def occ (a : List Int) (v : Nat) : Nat := a.count (-1 - (v : Int))
def covB (a b : List Int) : Bool := (List.range 24).all fun v => decide (occ b v ≤ occ a v)
/-- The terms of codes, as far as there are any. -/
def pcs (g : List Sym) (r : List Int) : List (List Int) :=
  if hr : r = [] then [] else match h : lenN g r 1 with
    | none => []
    | some k => r.take k :: pcs g (r.drop k)
termination_by r.length
decreasing_by
  have := lenN_le h
  have : r.length ≠ 0 := fun e => hr (List.length_eq_zero_iff.1 e)
  simp; omega
theorem pcs_nil (g : List Sym) : pcs g [] = [] := by rw [pcs]; simp
theorem pcs_some {g : List Sym} {r : List Int} {k : Nat} (hr : r ≠ []) (h : lenN g r 1 = some k) : pcs g r = r.take k :: pcs g (r.drop k) := by
  rw [pcs]; rw [dif_neg hr]; split
  · rename_i hk; rw [h] at hk; cases hk
  · rename_i k' hk; rw [h] at hk; cases hk; rfl
theorem pcs_parts {g : List Sym} : ∀ (n : Nat) {r : List Int} {ts : List (List Int)}, r.length ≤ n → parts g r = some ts → pcs g r = ts
  | n, r, ts, hn, h => by
    rcases parts_cases h with ⟨rfl, rfl⟩ | ⟨k, us, h1, h2, rfl, h3⟩
    · exact pcs_nil g
    · have h4 := lenN_le h1
      cases n with
      | zero => exact absurd (List.length_eq_zero_iff.1 (by omega)) h3
      | succ n =>
        rw [pcs_some h3 h1, pcs_parts n (by simp; omega) h2]
def unlF : List (List Int) → List (List Int) → Option (List Int × List Int)
  | x :: xs, y :: ys => if x = y then unlF xs ys else some (x, y)
  | _, _ => none
/-- The same, said once. -/
inductive More (g : List Sym) : List Int → List Int → Prop
  | sum {a b : List Int} : covB a b = true → sumW g b < sumW g a → More g a b
  | head {a b : List Int} : covB a b = true → sumW g a = sumW g b → gi b 0 < gi a 0 → More g a b
  | arg {a b x y : List Int} : covB a b = true → sumW g a = sumW g b → gi a 0 = gi b 0 → unlF (pcs g a.tail) (pcs g b.tail) = some (x, y) → More g x y → More g a b
/-! ### With terms put in -/
/-- A row of one term. -/
abbrev One (g : List Sym) (t : List Int) : Prop := lenN g t 1 = some t.length
/-- Rows of so many terms: pieces of one. -/
theorem pcs_row {g : List Sym} : ∀ {n : Nat} {r : List Int}, lenN g r n = some r.length → (∀ x ∈ pcs g r, One g x) ∧ (pcs g r).flatten = r ∧ (pcs g r).length = n
  | 0, r, h => by
    have : r = [] := by cases r <;> simp [lenN] at h <;> first | rfl | skip
    subst this
    simp [pcs_nil]
  | n + 1, r, h => by
    obtain ⟨k1, k2, h1, h2, h3⟩ := lenN_first h
    have hk := lenN_le h1
    have hr : r ≠ [] := fun e => by subst e; simp at hk; omega
    have ih := pcs_row (n := n) (r := r.drop k1) (by rw [h2]; simp; omega)
    rw [pcs_some hr h1]
    have ht : One g (r.take k1) := by
      have := lenN_take h1
      unfold One; rw [this]; simp; omega
    refine ⟨fun x hx => ?_, ?_, by simp [ih.2.2]⟩
    · rcases List.mem_cons.1 hx with rfl | hx
      · exact ht
      · exact ih.1 x hx
    · rw [List.flatten_cons, ih.2.1, List.take_append_drop]
theorem pcs_flat {g : List Sym} : ∀ {ts : List (List Int)}, (∀ x ∈ ts, One g x) → pcs g ts.flatten = ts
  | [], _ => pcs_nil g
  | t :: ts, h => by
    have h1 := h t (by simp)
    have h2 := lenN_le h1
    have h3 := lenN_app ts.flatten h1
    have hne : t ++ ts.flatten ≠ [] := fun e => by
      have := congrArg List.length e
      simp at this
      have : t.length = 0 := by rw [this.1]; rfl
      omega
    rw [List.flatten_cons, pcs_some hne h3, List.take_left, List.drop_left, pcs_flat (fun x hx => h x (List.mem_cons_of_mem _ hx))]
/-! ### Within a term -/
end Go.Qu

/- The terms of a row: what the program's function hands back. For every input; no condition. -/
set_option linter.unusedVariables false
set_option linter.unusedSimpArgs false
set_option maxRecDepth 100000
namespace Go.Proofs.YtjhganbjbiihoaaDoor.Ab
open Go Go.Ab Go.Qu Go.Proofs
attribute [local simp] and_assoc
def pcR (z : Bool) (ts : List (List Int)) : List Row := ts.map fun t => ⟨z, t, []⟩
theorem pcR_len (z : Bool) (ts : List (List Int)) : (pcR z ts).length = ts.length := by simp [pcR]
theorem l_pieces {g : List Sym} (hg : SigOk g) (z z' : Bool) (e e' : List D) {r : List Int} (hr : r.length ≤ 1000) (x : List (List Int) × Nat)
    (hx : x.2 ≤ r.length ∧ x.1.length ≤ x.2 ∧ (∃ m, lenN g (r.drop x.2) m = some (r.length - x.2)) ∧ x.1 ++ pcs g (r.drop x.2) = pcs g r) :
    evP F (Go.Ab.W F) (JW F d68 []) d68 [] [1,1,0,1] [(0, iG z g e), (1, iS z' r e'), (5, .own x.1.isEmpty 33 1 (rws (pcR z' x.1))), (6, iI x.2)] = some (.norm [(0, iG z g e), (1, iS z' r e'), (5, .own (pcs g r).isEmpty 33 1 (rws (pcR z' (pcs g r)))), (6, iI r.length)]) :=
  blk_fun (F := F) (d := d68) (lk := []) (p := [1,1,0,1,0,0]) (p0 := [1,1,0,1]) (id := 0) (by kernel_rfl) (st := fun (x : List (List Int) × Nat) => [(0, iG z g e), (1, iS z' r e'), (5, .own x.1.isEmpty 33 1 (rws (pcR z' x.1))), (6, iI x.2)]) (I := fun x => x.2 ≤ r.length ∧ x.1.length ≤ x.2 ∧ (∃ m, lenN g (r.drop x.2) m = some (r.length - x.2)) ∧ x.1 ++ pcs g (r.drop x.2) = pcs g r) (μ := fun x => r.length - x.2)
    (res := fun _ => .norm [(0, iG z g e), (1, iS z' r e'), (5, .own (pcs g r).isEmpty 33 1 (rws (pcR z' (pcs g r)))), (6, iI r.length)])
    (fun x hx => by
      obtain ⟨out, i⟩ := x
      obtain ⟨h1, h2, ⟨m, h3⟩, h4⟩ := hx
      dsimp only at h1 h2 h3 h4
      by_cases hi : i < r.length
      rotate_left
      · have e0 : i = r.length := by omega
        subst e0
        refine .stop (.exit 0 [(0, iG z g e), (1, iS z' r e'), (5, .own out.isEmpty 33 1 (rws (pcR z' out))), (6, iI r.length)]) (wpQ_way (q68_l0a _ _ z (syms g) e z' (ints r) e' out.isEmpty (rws (pcR z' out)) r.length _) (by simp [ints_len])) rfl ?_
        rw [List.drop_length, pcs_nil, List.append_nil] at h4
        rw [h4]; rfl
      have hi' : (i : Int) < r.length := by omega
      have hm : m ≠ 0 := fun e0 => by
        subst e0
        have : lenN g (r.drop i) 0 = some 0 := by cases r.drop i <;> rfl
        rw [this] at h3
        simp at h3; omega
      obtain ⟨m, rfl⟩ : ∃ m', m = m' + 1 := ⟨m - 1, by omega⟩
      obtain ⟨k1, k2, h5, h6, h7⟩ := lenN_first h3
      have hle := lenN_le h5
      simp only [List.length_drop] at hle
      have hsk := w_skip hg z z' e e' (r := r) (by omega) i
      rw [skB, skV, h5] at hsk
      have hne : r.drop i ≠ [] := by simp; omega
      rw [pcs_some hne h5, List.drop_drop] at h4
      have hpc : List.drop i (tkX (i + k1) (ints r) e') = ints ((r.drop i).take k1) := by
        rw [tkX_ints (by omega), ints_drop, List.drop_take, Nat.add_sub_cancel_left]
      have hk1 : (i : Int) ≤ ((i + k1 : Nat) : Int) := by omega
      have hk2 : ((i + k1 : Nat) : Int) ≤ ((r.length + e'.length : Nat) : Int) := by omega
      have hk3 : ((i + k1 : Nat) : Int) ≤ (r.length : Int) + (e'.length : Int) := by omega
      have hl1 : (rws (pcR z' out)).length = out.length := by rw [rws_len, pcR_len]
      have hb1 : out.length + 1 ≤ 9223372036854775807 := by omega
      have hb2 : (out.length + 1) * 24 ≤ 140737488355328 := by omega
      refine .go (out ++ [(r.drop i).take k1], i + k1) (wpQ_way (q68_l0a _ _ z (syms g) e z' (ints r) e' out.isEmpty (rws (pcR z' out)) i _) ?_) ⟨by dsimp only; omega, by simp; omega, ⟨m, by dsimp only; rw [← List.drop_drop, h6]; congr 1; omega⟩, by dsimp only; rw [List.append_assoc]; exact h4⟩ (by dsimp only; omega) rfl
      have hrw : rws (pcR z' (out ++ [(r.drop i).take k1])) = rws (pcR z' out) ++ [.sl 1 z' (ints ((r.drop i).take k1)) []] := by simp [pcR, rws, Row.d]
      have hem : (out ++ [(r.drop i).take k1]).isEmpty = false := by simp
      dsimp only
      rw [hrw, hem]
      simp [-Bool.exists_bool, -getElem?_pos, -Int.natCast_add, -List.length_take, -List.length_drop, hi', ints_len, hsk, hpc, hk1, hk2, hk3, hl1, hb1, hb2]) x hx
theorem w_pieces {g : List Sym} (hg : SigOk g) (z z' : Bool) (e e' : List D) {r : List Int} (hr : r.length ≤ 1000) {n : Nat} (h : lenN g r n = some r.length) :
    C 68 [iG z g e, iS z' r e'] = some (.own (pcs g r).isEmpty 33 1 (rws (pcR z' (pcs g r))), [iG z g e, iS z' r e']) := by
  refine wfn (lk := []) rfl rfl (fnW_way (q68 _ _ z (syms g) e z' (ints r) e' _) ?_)
  have h1 := l_pieces hg z z' e e' hr ([], 0) ⟨Nat.zero_le _, Nat.zero_le _, ⟨n, by simpa using h⟩, rfl⟩
  exact .inr ⟨_, _, _, _, _, _, _, _, _, h1, rfl⟩
end Go.Proofs.YtjhganbjbiihoaaDoor.Ab

/- Literals, clauses: what the program's and the reference's functions hand back. For every input; no condition. -/
set_option linter.unusedVariables false
set_option linter.unusedSimpArgs false
set_option maxRecDepth 100000
namespace Go.Proofs.YtjhganbjbiihoaaDoor.Ab
open Go Go.Ab Go.Qu Go.Proofs
attribute [local simp] and_assoc
theorem w_litmay (z : Bool) (g : List Sym) (e : List D) (b z' : Bool) (a : List Int) (e' : List D) : C 86 [iG z g e, iLit b z' a e'] = some (iB (atomB g a), [iG z g e, iLit b z' a e']) := by
  refine wfn (lk := []) rfl rfl (fnW_way (q86 _ _ z (syms g) e b z' (ints a) e' _) ?_)
  have h1 := w_isatom z z' g e e' a
  cases h : atomB g a <;> simp [-Bool.exists_bool, h1, h]
theorem w_litsmay (z z' : Bool) (g : List Sym) (e e' : List D) {ls : List LitR} (hl : ls.length ≤ 1000) : C 48 [iG z g e, iL z' ls e'] = some (.tup [iI (if litsB g ls = true then (lenL ls : Int) else 0), iB (litsB g ls)], [iG z g e, iL z' ls e']) := by
  refine wfn (lk := []) rfl rfl (fnW_way (q48 _ _ z (syms g) e z' (lits ls) e' _) ?_)
  have h1 := fun x hx => blk_fun (F := F) (d := d48) (lk := []) (p := [1,1,0,1,0,0]) (p0 := [1,1,0,1]) (id := 0) (by kernel_rfl) (st := fun (x : Nat × Nat) => [(0, iG z g e), (6, iI x.2), (9, iL z' ls e'), (10, iI ls.length), (11, iI x.1)]) (I := fun x => x.1 ≤ ls.length ∧ x.2 ≤ 49 * x.1) (μ := fun x => ls.length - x.1)
    (res := fun x => if litsB g (ls.drop x.1) = true then .norm [(0, iG z g e), (6, iI (x.2 + lenL (ls.drop x.1) : Nat)), (9, iL z' ls e'), (10, iI ls.length), (11, iI ls.length)] else .ret [(4, iI 0), (5, iB false)])
    (fun x hx => by
      obtain ⟨i, k⟩ := x
      obtain ⟨hx1, hx2⟩ := hx
      dsimp only at hx1 hx2
      by_cases hi : i < ls.length
      · obtain ⟨l, hl1⟩ := at_lt hi
        have hd : ls.drop i = l :: ls.drop (i + 1) := by
          rw [List.drop_eq_getElem_cons hi]
          rw [List.getElem?_eq_getElem hi] at hl1
          cases hl1; rfl
        have hm := w_litmay z g e l.neg l.r.z l.r.l l.r.e
        have hi' : (i : Int) < ls.length := by omega
        cases hb : atomB g l.r.l
        · refine .stop (.ret [(4, iI 0), (5, iB false)]) (wpQ_way (q48_l0a _ _ z (syms g) e k z' (lits ls) e' _ i _) ?_) rfl ?_
          · simp [-Bool.exists_bool, -getElem?_pos, hi', lits_at hl1, hm, hb]
          · dsimp only; rw [hd]; simp [litsB, hb, blkO]
        · have h49 := (atom_codes hb).1
          have hw : IntKind.wrap .i64 ((k : Int) + (l.r.l.length : Int)) = ((k + l.r.l.length : Nat) : Int) := by rw [wr _ (by omega) (by omega)]; omega
          refine .go (i + 1, k + l.r.l.length) (wpQ_way (q48_l0a _ _ z (syms g) e k z' (lits ls) e' _ i _) ?_) ⟨by dsimp only; omega, by dsimp only; omega⟩ (by dsimp only; omega) ?_
          · simp [-Bool.exists_bool, -getElem?_pos, -Int.natCast_add, hi', lits_at hl1, hm, hb, ints_len, hw, wr1 hi (by omega)]
          · dsimp only; rw [hd]
            have h3 : litsB g (l :: ls.drop (i + 1)) = litsB g (ls.drop (i + 1)) := by simp [litsB, hb]
            rw [h3, lenL, ← Nat.add_assoc]
      · have e1 : i = ls.length := by omega
        subst e1
        refine .stop (.exit 0 [(0, iG z g e), (6, iI k), (9, iL z' ls e'), (10, iI ls.length), (11, iI ls.length)]) (wpQ_way (q48_l0a _ _ z (syms g) e k z' (lits ls) e' _ _ _) (by simp)) rfl ?_
        simp [blkO, litsB, lenL]) x hx
  have h2 : evP F (Go.Ab.W F) (JW F d48 []) d48 [] [1,1,0,1] [(0, iG z g e), (6, iI 0), (9, iL z' ls e'), (10, iI ls.length), (11, iI 0)] = _ := h1 (0, 0) ⟨Nat.zero_le _, Nat.le_refl _⟩
  rw [List.drop_zero, Nat.zero_add] at h2
  cases h : litsB g ls
  · rw [h] at h2
    simp only [Bool.false_eq_true, if_false] at h2
    simp [-Bool.exists_bool, lits_len, h2]
  · rw [h] at h2
    simp only [if_true] at h2
    simp [-Bool.exists_bool, lits_len, h2]
theorem w_rowsmay (z z' : Bool) (g : List Sym) (e e' : List D) {ts : List Row} (hl : ts.length ≤ 1000) : C 49 [iG z g e, iR z' ts e'] = some (.tup [iI (if rowsB g ts = true then (lenR ts : Int) else 0), iB (rowsB g ts)], [iG z g e, iR z' ts e']) := by
  refine wfn (lk := []) rfl rfl (fnW_way (q49 _ _ z (syms g) e z' (rws ts) e' _) ?_)
  cases ts with
  | nil =>
    have h2 : evP F (Go.Ab.W F) (JW F d49 []) d49 [] [1,1,0,1] [(0, iG z g e), (6, iI 0), (7, iI 0), (12, iR z' [] e'), (13, iI 0), (14, iI 0)] = some (.norm [(0, iG z g e), (6, iI 0), (7, iI 0), (12, iR z' [] e'), (13, iI 0), (14, iI 0)]) :=
      blk_fun (F := F) (d := d49) (lk := []) (p := [1,1,0,1,0,0]) (p0 := [1,1,0,1]) (id := 0) (by kernel_rfl) (st := fun (_ : Unit) => [(0, iG z g e), (6, iI 0), (7, iI 0), (12, iR z' [] e'), (13, iI 0), (14, iI 0)]) (I := fun _ => True) (μ := fun _ => 0) (res := fun _ => .norm [(0, iG z g e), (6, iI 0), (7, iI 0), (12, iR z' [] e'), (13, iI 0), (14, iI 0)])
        (fun _ _ => .stop (.exit 0 [(0, iG z g e), (6, iI 0), (7, iI 0), (12, iR z' [] e'), (13, iI 0), (14, iI 0)]) (wpQ_way (q49_l0a _ _ z (syms g) e 0 0 z' (rws []) e' _ _ _) (by simp)) rfl (by simp [blkO])) () trivial
    simp only [iR, rws_nil] at h2
    simp [-Bool.exists_bool, rws_nil, rowsB, lenR, h2]
  | cons r0 tl =>
    have hsp : ∀ n : Nat, n = termsN g r0.l → rowsB g (r0 :: tl) = rowsF g n (r0 :: tl) := fun n h => by rw [h]; rfl
    have h1 := fun x hx => blk_fun (F := F) (d := d49) (lk := []) (p := [1,1,0,1,0,0]) (p0 := [1,1,0,1]) (id := 0) (by kernel_rfl) (st := fun (x : Nat × Nat) => [(0, iG z g e), (6, iI x.2), (7, iI (if x.1 = 0 then 0 else (termsN g r0.l : Int))), (12, iR z' (r0 :: tl) e'), (13, iI (r0 :: tl).length), (14, iI x.1)]) (I := fun x => x.1 ≤ (r0 :: tl).length ∧ x.2 ≤ 48 * x.1) (μ := fun x => (r0 :: tl).length - x.1)
      (res := fun x => if rowsF g (termsN g r0.l) ((r0 :: tl).drop x.1) = true then .norm [(0, iG z g e), (6, iI (x.2 + lenR ((r0 :: tl).drop x.1) : Nat)), (7, iI (termsN g r0.l)), (12, iR z' (r0 :: tl) e'), (13, iI (r0 :: tl).length), (14, iI (r0 :: tl).length)] else .ret [(4, iI 0), (5, iB false)])
      (fun x hx => by
        obtain ⟨i, k⟩ := x
        obtain ⟨hx1, hx2⟩ := hx
        dsimp only at hx1 hx2
        by_cases hi : i < (r0 :: tl).length
        · obtain ⟨r, hr1⟩ := at_lt hi
          have hd : (r0 :: tl).drop i = r :: (r0 :: tl).drop (i + 1) := by
            rw [List.drop_eq_getElem_cons hi]
            rw [List.getElem?_eq_getElem hi] at hr1
            cases hr1; rfl
          have h0r : i = 0 → r = r0 := fun h => by subst h; simp at hr1; exact hr1.symm
          have hm := w_row z r.z g e r.e r.l
          have hi' : (i : Int) < (r0 :: tl).length := by omega
          generalize r0 :: tl = ts at *
          cases hb : rowB g r.l
          · refine .stop (.ret [(4, iI 0), (5, iB false)]) (wpQ_way (q49_l0a _ _ z (syms g) e k _ z' (rws ts) e' _ i _) ?_) rfl ?_
            · rw [hb] at hm
              simp [-Bool.exists_bool, -getElem?_pos, hi', rws_at hr1, hm]
            · dsimp only; rw [hd]; simp [rowsF, hb, blkO]
          · have h48 := rowB_len hb
            rw [hb] at hm
            by_cases hn : termsN g r.l = termsN g r0.l
            · have hw : IntKind.wrap .i64 ((k : Int) + (r.l.length : Int)) = ((k + r.l.length : Nat) : Int) := by rw [wr _ (by omega) (by omega)]; omega
              refine .go (i + 1, k + r.l.length) (wpQ_way (q49_l0a _ _ z (syms g) e k _ z' (rws ts) e' _ i _) ?_) ⟨by dsimp only; omega, by dsimp only; omega⟩ (by dsimp only; omega) ?_
              · by_cases h0 : i = 0
                · simp [-Bool.exists_bool, -getElem?_pos, -Int.natCast_add, hi', rws_at hr1, hm, ints_len, hw, wr1 hi (by omega), hn, h0] at hr1 ⊢
                  subst h0
                  simp [-Bool.exists_bool, -getElem?_pos, -Int.natCast_add, hi', rws_at hr1, hm, ints_len, hw, wr1 hi (by omega), hn]
                  exact ⟨hi, wr _ (by omega) (by omega)⟩
                · simp [-Bool.exists_bool, -getElem?_pos, -Int.natCast_add, hi', rws_at hr1, hm, ints_len, hw, wr1 hi (by omega), hn, h0]
              · dsimp only; rw [hd]
                have h3 : rowsF g (termsN g r0.l) (r :: ts.drop (i + 1)) = rowsF g (termsN g r0.l) (ts.drop (i + 1)) := by simp [rowsF, hb, hn]
                rw [h3, lenR, ← Nat.add_assoc]
            · have h0 : ¬ i = 0 := fun h => hn (by rw [h0r h])
              have hn' : ¬ (termsN g r.l : Int) = termsN g r0.l := by omega
              refine .stop (.ret [(4, iI 0), (5, iB false)]) (wpQ_way (q49_l0a _ _ z (syms g) e k _ z' (rws ts) e' _ i _) ?_) rfl ?_
              · simp [-Bool.exists_bool, -getElem?_pos, hi', rws_at hr1, hm, h0, hn']
              · dsimp only; rw [hd]; simp [rowsF, hb, hn, blkO]
        · have e1 : i = (r0 :: tl).length := by omega
          have h0 : ¬ i = 0 := by simp at e1; omega
          refine .stop (.exit 0 [(0, iG z g e), (6, iI k), (7, iI (termsN g r0.l)), (12, iR z' (r0 :: tl) e'), (13, iI (r0 :: tl).length), (14, iI (r0 :: tl).length)]) (wpQ_way (q49_l0a _ _ z (syms g) e k _ z' (rws (r0 :: tl)) e' _ _ _) ?_) rfl ?_
          · subst e1; simp
          · subst e1; simp [blkO, rowsF, lenR]) x hx
    have h2 : evP F (Go.Ab.W F) (JW F d49 []) d49 [] [1,1,0,1] [(0, iG z g e), (6, iI 0), (7, iI 0), (12, iR z' (r0 :: tl) e'), (13, iI (r0 :: tl).length), (14, iI 0)] = _ := h1 (0, 0) ⟨Nat.zero_le _, Nat.le_refl _⟩
    rw [List.drop_zero, Nat.zero_add, ← hsp _ rfl] at h2
    generalize r0 :: tl = ts at *
    cases h : rowsB g ts
    · rw [h] at h2
      simp only [Bool.false_eq_true, if_false] at h2
      simp [-Bool.exists_bool, rws_len, h2]
    · rw [h] at h2
      simp only [if_true] at h2
      simp [-Bool.exists_bool, rws_len, h2]
theorem w_clmay (z : Bool) (g : List Sym) (e : List D) (c : Cl) : C 18 [iG z g e, iC c] = some (iB (clB g c), [iG z g e, iC c]) := by
  refine wfn (lk := []) rfl rfl (fnW_way (q18 _ _ z (syms g) e c.lz (lits c.ls) c.le c.tz (rws c.ts) c.te c.cz (lits c.cs) c.ce _) ?_)
  have h1 := w_may z g e
  cases hg : sigB g
  · simp [-Bool.exists_bool, h1, hg, clB]
  by_cases l1 : c.ls.length ≤ 5
  rotate_left
  · have l1' : 5 < (c.ls.length : Int) := by omega
    simp [-Bool.exists_bool, h1, hg, clB, lits_len, l1, l1']
  by_cases l2 : c.ts.length ≤ 3
  rotate_left
  · have l1' : ¬ 5 < (c.ls.length : Int) := by omega
    have l2' : 3 < (c.ts.length : Int) := by omega
    simp [-Bool.exists_bool, h1, hg, clB, lits_len, rws_len, l1, l1', l2, l2']
  by_cases l3 : c.cs.length ≤ 3
  rotate_left
  · have l1' : ¬ 5 < (c.ls.length : Int) := by omega
    have l2' : ¬ 3 < (c.ts.length : Int) := by omega
    have l3' : 3 < (c.cs.length : Int) := by omega
    simp [-Bool.exists_bool, h1, hg, clB, lits_len, rws_len, l1, l1', l2, l2', l3, l3']
  have l1' : ¬ 5 < (c.ls.length : Int) := by omega
  have l2' : ¬ 3 < (c.ts.length : Int) := by omega
  have l3' : ¬ 3 < (c.cs.length : Int) := by omega
  have h2 := w_litsmay z c.lz g e c.le (ls := c.ls) (by omega)
  have h3 := w_rowsmay z c.tz g e c.te (ts := c.ts) (by omega)
  have h4 := w_litsmay z c.cz g e c.ce (ls := c.cs) (by omega)
  cases b1 : litsB g c.ls
  · rw [b1] at h2
    cases b2 : rowsB g c.ts <;> cases b3 : litsB g c.cs <;> simp [-Bool.exists_bool, h1, hg, clB, lits_len, rws_len, l1, l1', l2, l2', l3, l3', h2, h3, h4, b1, b2, b3]
  cases b2 : rowsB g c.ts
  · rw [b2] at h3
    cases b3 : litsB g c.cs <;> simp [-Bool.exists_bool, h1, hg, clB, lits_len, rws_len, l1, l1', l2, l2', l3, l3', h2, h3, h4, b1, b2, b3]
  cases b3 : litsB g c.cs
  · simp [-Bool.exists_bool, h1, hg, clB, lits_len, rws_len, l1, l1', l2, l2', l3, l3', h2, h3, h4, b1, b2, b3]
  have k1 := lenL_le b1
  have k3 := lenL_le b3
  have k2 : lenR c.ts ≤ 48 * c.ts.length := by
    cases ht : c.ts with
    | nil => simp [lenR]
    | cons r tl => rw [ht] at b2; exact lenR_le b2
  rw [b1] at h2; rw [b2] at h3; rw [b3] at h4
  simp only [if_true] at h2 h3 h4
  have hw : IntKind.wrap .i64 (IntKind.wrap .i64 ((lenL c.ls : Int) + (lenR c.ts : Int)) + (lenL c.cs : Int)) = ((lenL c.ls + lenR c.ts + lenL c.cs : Nat) : Int) := by
    rw [wr ((lenL c.ls : Int) + (lenR c.ts : Int)) (by omega) (by omega), wr _ (by omega) (by omega)]; omega
  by_cases k : lenL c.ls + lenR c.ts + lenL c.cs ≤ 240
  · have k' : ((lenL c.ls + lenR c.ts + lenL c.cs : Nat) : Int) ≤ 240 := by omega
    simp [-Bool.exists_bool, -Int.natCast_add, h1, hg, clB, lits_len, rws_len, l1, l1', l2, l2', l3, l3', h2, h3, h4, b1, b2, b3, hw, k, k']
  · have k' : ¬ ((lenL c.ls + lenR c.ts + lenL c.cs : Nat) : Int) ≤ 240 := by omega
    simp [-Bool.exists_bool, -Int.natCast_add, h1, hg, clB, lits_len, rws_len, l1, l1', l2, l2', l3, l3', h2, h3, h4, b1, b2, b3, hw, k, k']
    omega
end Go.Proofs.YtjhganbjbiihoaaDoor.Ab

/- Literals, clauses: what the reference's functions hand back; weights; copies. For every input; no condition. -/
set_option linter.unusedVariables false
set_option linter.unusedSimpArgs false
set_option maxRecDepth 100000
namespace Go.Proofs.YtjhganbjbiihoaaDoor.Ab
open Go Go.Ab Go.Qu Go.Proofs
attribute [local simp] and_assoc
theorem atom_sig {g : List Sym} {a : List Int} (h : atomB g a = true) : sigB g = true := by
  cases a with
  | nil => simp [atomB] at h
  | cons p r =>
    simp only [atomB] at h
    split at h
    · cases h
    · split at h
      · cases h
      · simp only [Bool.and_eq_true] at h; exact h.1.2
theorem w_rlitmay (z : Bool) (g : List Sym) (e : List D) (b z' : Bool) (a : List Int) (e' : List D) : C 51 [iG z g e, iLit b z' a e'] = some (iB (atomB g a), [iG z g e, iLit b z' a e']) := by
  refine wfn (lk := []) rfl rfl (fnW_way (q51 _ _ z (syms g) e b z' (ints a) e' _) ?_)
  have h1 := w_rmay z g e
  cases hg : sigB g
  · have hb : atomB g a = false := by
      cases h : atomB g a
      · rfl
      · rw [atom_sig h] at hg; cases hg
    simp [-Bool.exists_bool, h1, hg, hb]
  have h2 := w_risatom hg z z' e e' a
  cases h : atomB g a <;> simp [-Bool.exists_bool, h1, hg, h2, h]
/-- All rows of a clause. -/
def rowsOf (c : Cl) : List Row := c.ls.map (·.r) ++ c.ts ++ c.cs.map (·.r)
theorem w_rrows {c : Cl} (l1 : c.ls.length ≤ 1000) (l2 : c.ts.length ≤ 1000) (l3 : c.cs.length ≤ 1000) : C 53 [iC c] = some (.own (rowsOf c).isEmpty 33 1 (rws (rowsOf c)), [iC c]) := by
  refine wfn (lk := []) rfl rfl (fnW_way (q53 _ _ c.lz (lits c.ls) c.le c.tz (rws c.ts) c.te c.cz (lits c.cs) c.ce _) ?_)
  have h1 := blk_fun (F := F) (d := d53) (lk := []) (p := [1,1,0,1,0,0]) (p0 := [1,1,0,1]) (id := 0) (by kernel_rfl) (st := fun (i : Nat) => [(1, .dbox 26 0 [.sl 2 c.lz (lits c.ls) c.le, .sl 1 c.tz (rws c.ts) c.te, .sl 2 c.cz (lits c.cs) c.ce]), (3, .own (c.ls.take i).isEmpty 33 1 (rws ((c.ls.take i).map (·.r)))), (4, iI i)]) (I := fun i => i ≤ c.ls.length) (μ := fun i => c.ls.length - i)
    (res := fun _ => .norm [(1, .dbox 26 0 [.sl 2 c.lz (lits c.ls) c.le, .sl 1 c.tz (rws c.ts) c.te, .sl 2 c.cz (lits c.cs) c.ce]), (3, .own c.ls.isEmpty 33 1 (rws (c.ls.map (·.r)))), (4, iI c.ls.length)])
    (fun i hi => by
      by_cases h : i < c.ls.length
      · obtain ⟨l, hl⟩ := at_lt h
        have e1 : c.ls.take (i + 1) = c.ls.take i ++ [l] := by rw [List.take_add_one, hl]; rfl
        have e2 : (rws ((c.ls.take i).map (·.r))).length = i := by rw [rws_len, List.length_map, List.length_take]; omega
        have hi' : (i : Int) < c.ls.length := by omega
        refine .go (i + 1) (wpQ_way (q53_l0a _ _ c.lz (lits c.ls) c.le c.tz (rws c.ts) c.te c.cz (lits c.cs) c.ce _ _ i _) ?_) h (by omega) rfl
        simp [-Bool.exists_bool, -getElem?_pos, -Int.natCast_add, -List.map_take, lits_len, hi', lits_at hl, wr1 h (by omega), e1, rws_append, rws_cons, rws_nil, e2]
        omega
      · have e1 : i = c.ls.length := by omega
        subst e1
        refine .stop (.exit 0 [(1, .dbox 26 0 [.sl 2 c.lz (lits c.ls) c.le, .sl 1 c.tz (rws c.ts) c.te, .sl 2 c.cz (lits c.cs) c.ce]), (3, .own c.ls.isEmpty 33 1 (rws (c.ls.map (·.r)))), (4, iI c.ls.length)]) (wpQ_way (q53_l0a _ _ c.lz (lits c.ls) c.le c.tz (rws c.ts) c.te c.cz (lits c.cs) c.ce _ _ _ _) ?_) rfl rfl
        simp [lits_len]) 0 (Nat.zero_le _)
  have h2 := blk_fun (F := F) (d := d53) (lk := []) (p := [1,1,1,0,1,0,0]) (p0 := [1,1,1,0,1]) (id := 2) (by kernel_rfl) (st := fun (i : Nat) => [(1, .dbox 26 0 [.sl 2 c.lz (lits c.ls) c.le, .sl 1 c.tz (rws c.ts) c.te, .sl 2 c.cz (lits c.cs) c.ce]), (3, .own (c.ls.isEmpty && (c.ts.take i).isEmpty) 33 1 (rws (c.ls.map (·.r) ++ c.ts.take i))), (5, iI i)]) (I := fun i => i ≤ c.ts.length) (μ := fun i => c.ts.length - i)
    (res := fun _ => .norm [(1, .dbox 26 0 [.sl 2 c.lz (lits c.ls) c.le, .sl 1 c.tz (rws c.ts) c.te, .sl 2 c.cz (lits c.cs) c.ce]), (3, .own (c.ls.isEmpty && c.ts.isEmpty) 33 1 (rws (c.ls.map (·.r) ++ c.ts))), (5, iI c.ts.length)])
    (fun i hi => by
      by_cases h : i < c.ts.length
      · obtain ⟨l, hl⟩ := at_lt h
        have e1 : c.ts.take (i + 1) = c.ts.take i ++ [l] := by rw [List.take_add_one, hl]; rfl
        have e2 : (rws (c.ls.map (·.r) ++ c.ts.take i)).length = c.ls.length + i := by rw [rws_len, List.length_append, List.length_map, List.length_take]; omega
        have hi' : (i : Int) < c.ts.length := by omega
        refine .go (i + 1) (wpQ_way (q53_l2b _ _ c.lz (lits c.ls) c.le c.tz (rws c.ts) c.te c.cz (lits c.cs) c.ce _ _ i _) ?_) h (by omega) rfl
        have e3 : rws (c.ls.map (·.r) ++ c.ts.take (i + 1)) = rws (c.ls.map (·.r) ++ c.ts.take i) ++ [.sl 1 l.z (ints l.l) l.e] := by rw [e1, ← List.append_assoc, rws_append]; rfl
        simp [-Bool.exists_bool, -getElem?_pos, -Int.natCast_add, -List.map_take, rws_len, hi', rws_at hl, wr1 h (by omega), e2, e3]
        exact ⟨by omega, by omega, fun _ he => by rw [he] at h; simp at h⟩
      · have e1 : i = c.ts.length := by omega
        subst e1
        refine .stop (.exit 2 [(1, .dbox 26 0 [.sl 2 c.lz (lits c.ls) c.le, .sl 1 c.tz (rws c.ts) c.te, .sl 2 c.cz (lits c.cs) c.ce]), (3, .own (c.ls.isEmpty && c.ts.isEmpty) 33 1 (rws (c.ls.map (·.r) ++ c.ts))), (5, iI c.ts.length)]) (wpQ_way (q53_l2b _ _ c.lz (lits c.ls) c.le c.tz (rws c.ts) c.te c.cz (lits c.cs) c.ce _ _ _ _) ?_) rfl rfl
        simp [rws_len]) 0 (Nat.zero_le _)
  have h3 := blk_fun (F := F) (d := d53) (lk := []) (p := [1,1,1,1,0,1,0,0]) (p0 := [1,1,1,1,0,1]) (id := 4) (by kernel_rfl) (st := fun (i : Nat) => [(1, .dbox 26 0 [.sl 2 c.lz (lits c.ls) c.le, .sl 1 c.tz (rws c.ts) c.te, .sl 2 c.cz (lits c.cs) c.ce]), (3, .own ((c.ls.isEmpty && c.ts.isEmpty) && (c.cs.take i).isEmpty) 33 1 (rws ((c.ls.map (·.r) ++ c.ts) ++ (c.cs.take i).map (·.r)))), (6, iI i)]) (I := fun i => i ≤ c.cs.length) (μ := fun i => c.cs.length - i)
    (res := fun _ => .norm [(1, .dbox 26 0 [.sl 2 c.lz (lits c.ls) c.le, .sl 1 c.tz (rws c.ts) c.te, .sl 2 c.cz (lits c.cs) c.ce]), (3, .own ((c.ls.isEmpty && c.ts.isEmpty) && c.cs.isEmpty) 33 1 (rws ((c.ls.map (·.r) ++ c.ts) ++ c.cs.map (·.r)))), (6, iI c.cs.length)])
    (fun i hi => by
      by_cases h : i < c.cs.length
      · obtain ⟨l, hl⟩ := at_lt h
        have e1 : c.cs.take (i + 1) = c.cs.take i ++ [l] := by rw [List.take_add_one, hl]; rfl
        have e2 : (rws ((c.ls.map (·.r) ++ c.ts) ++ (c.cs.take i).map (·.r))).length = c.ls.length + c.ts.length + i := by rw [rws_len, List.length_append, List.length_append, List.length_map, List.length_map, List.length_take]; omega
        have hi' : (i : Int) < c.cs.length := by omega
        refine .go (i + 1) (wpQ_way (q53_l4b _ _ c.lz (lits c.ls) c.le c.tz (rws c.ts) c.te c.cz (lits c.cs) c.ce _ _ i _) ?_) h (by omega) rfl
        have e3 : rws ((c.ls.map (·.r) ++ c.ts) ++ (c.cs.take (i + 1)).map (·.r)) = rws ((c.ls.map (·.r) ++ c.ts) ++ (c.cs.take i).map (·.r)) ++ [.sl 1 l.r.z (ints l.r.l) l.r.e] := by rw [e1, List.map_append, ← List.append_assoc, rws_append]; rfl
        simp [-Bool.exists_bool, -getElem?_pos, -Int.natCast_add, -List.map_take, -List.append_assoc, lits_len, hi', lits_at hl, wr1 h (by omega), e2, e3]
        exact ⟨by omega, by omega, fun _ _ he => by rw [he] at h; simp at h⟩
      · have e1 : i = c.cs.length := by omega
        subst e1
        refine .stop (.exit 4 [(1, .dbox 26 0 [.sl 2 c.lz (lits c.ls) c.le, .sl 1 c.tz (rws c.ts) c.te, .sl 2 c.cz (lits c.cs) c.ce]), (3, .own ((c.ls.isEmpty && c.ts.isEmpty) && c.cs.isEmpty) 33 1 (rws ((c.ls.map (·.r) ++ c.ts) ++ c.cs.map (·.r)))), (6, iI c.cs.length)]) (wpQ_way (q53_l4b _ _ c.lz (lits c.ls) c.le c.tz (rws c.ts) c.te c.cz (lits c.cs) c.ce _ _ _ _) ?_) rfl rfl
        simp [lits_len]) 0 (Nat.zero_le _)
  have h1' : evP F (Go.Ab.W F) (JW F d53 []) d53 [] [1,1,0,1] [(1, .dbox 26 0 [.sl 2 c.lz (lits c.ls) c.le, .sl 1 c.tz (rws c.ts) c.te, .sl 2 c.cz (lits c.cs) c.ce]), (3, .own true 33 1 []), (4, iI 0)] = _ := h1
  have h2' := h2
  simp only [List.take_zero, List.append_nil, List.isEmpty_nil, Bool.and_true, Int.natCast_zero] at h2'
  have h3' := h3
  simp only [List.take_zero, List.map_nil, List.append_nil, List.isEmpty_nil, Bool.and_true, Int.natCast_zero] at h3'
  have hz : (rowsOf c).isEmpty = ((c.ls.isEmpty && c.ts.isEmpty) && c.cs.isEmpty) := by
    unfold rowsOf
    cases c.ls <;> cases c.ts <;> cases c.cs <;> simp
  refine ⟨_, _, _, _, _, _, _, _, _, _, _, _, h1', _, _, _, _, _, _, _, _, _, _, _, _, h2', _, _, _, _, _, _, _, _, _, _, _, _, h3', ?_⟩
  rw [hz]; rfl
end Go.Proofs.YtjhganbjbiihoaaDoor.Ab

/- Clauses: what the reference may; copies; the same. For every input; no condition. -/
set_option linter.unusedVariables false
set_option linter.unusedSimpArgs false
set_option maxRecDepth 100000
namespace Go.Proofs.YtjhganbjbiihoaaDoor.Ab
open Go Go.Ab Go.Qu Go.Proofs
attribute [local simp] and_assoc
theorem terms_row {g : List Sym} (hg : sigB g = true) (r : List Int) : (rowB g r = true ∧ termsM g r = (termsN g r : Int)) ∨ (rowB g r = false ∧ termsM g r = -1) := by
  unfold rowB termsM termsN begsM
  cases h : rowP g r with
  | none => right; simp
  | some ts => left; simp [hg, begs_len]
theorem l_rclmay0 {g : List Sym} (hg : sigB g = true) (z : Bool) (e : List D) (c : Cl) (l0 : c.ls.length ≤ 1000) (l2 : c.ts.length ≤ 1000) (l3 : c.cs.length ≤ 1000) : ((∀ j, 0 ≤ j → j < c.ls.length → (fun i => match c.ls[i]? with | some l => atomB g l.r.l | none => true) j = true) ∧ evP F (Go.Ab.W F) (JW F d19 []) d19 [] [1,1,0,1] [(0, iG z g e), (3, .dbox 26 0 [.sl 2 c.lz (lits c.ls) c.le, .sl 1 c.tz (rws c.ts) c.te, .sl 2 c.cz (lits c.cs) c.ce]), (5, iI 0)] = some (.norm [(0, iG z g e), (3, .dbox 26 0 [.sl 2 c.lz (lits c.ls) c.le, .sl 1 c.tz (rws c.ts) c.te, .sl 2 c.cz (lits c.cs) c.ce]), (5, iI c.ls.length)])) ∨ ((∃ j, 0 ≤ j ∧ j < c.ls.length ∧ (fun i => match c.ls[i]? with | some l => atomB g l.r.l | none => true) j = false) ∧ evP F (Go.Ab.W F) (JW F d19 []) d19 [] [1,1,0,1] [(0, iG z g e), (3, .dbox 26 0 [.sl 2 c.lz (lits c.ls) c.le, .sl 1 c.tz (rws c.ts) c.te, .sl 2 c.cz (lits c.cs) c.ce]), (5, iI 0)] = some (.ret [(4, iB false)])) := by
  have hso := sigOk hg
  exact blk_all (F := F) (d := d19) (lk := []) (p := [1,1,0,1,0,0]) (p0 := [1,1,0,1]) (by kernel_rfl) (n := c.ls.length) (id := 0) (st := fun i => [(0, iG z g e), (3, .dbox 26 0 [.sl 2 c.lz (lits c.ls) c.le, .sl 1 c.tz (rws c.ts) c.te, .sl 2 c.cz (lits c.cs) c.ce]), (5, iI i)]) (q := fun i => match c.ls[i]? with | some l => atomB g l.r.l | none => true) (rt := [(4, iB false)]) (e := [(0, iG z g e), (3, .dbox 26 0 [.sl 2 c.lz (lits c.ls) c.le, .sl 1 c.tz (rws c.ts) c.te, .sl 2 c.cz (lits c.cs) c.ce]), (5, iI c.ls.length)])
    (fun i hi hq => by
      obtain ⟨l, hl⟩ := at_lt hi
      rw [hl] at hq
      dsimp only at hq
      have hm := w_rlitmay z g e l.neg l.r.z l.r.l l.r.e
      have hi' : (i : Int) < c.ls.length := by omega
      exact wpQ_way (q19_l0a _ _ z (syms g) e c.lz (lits c.ls) c.le c.tz (rws c.ts) c.te c.cz (lits c.cs) c.ce i _) (by simp [-Bool.exists_bool, -getElem?_pos, -Int.natCast_add, lits_len, hi', lits_at hl, hm, hq, wr1 hi (by omega)]))
    (fun i hi hq => by
      obtain ⟨l, hl⟩ := at_lt hi
      rw [hl] at hq
      dsimp only at hq
      have hm := w_rlitmay z g e l.neg l.r.z l.r.l l.r.e
      have hi' : (i : Int) < c.ls.length := by omega
      exact wpQ_way (q19_l0a _ _ z (syms g) e c.lz (lits c.ls) c.le c.tz (rws c.ts) c.te c.cz (lits c.cs) c.ce i _) (by simp [-Bool.exists_bool, -getElem?_pos, -Int.natCast_add, lits_len, hi', lits_at hl, hm, hq]))
    (wpQ_way (q19_l0a _ _ z (syms g) e c.lz (lits c.ls) c.le c.tz (rws c.ts) c.te c.cz (lits c.cs) c.ce _ _) (by simp [lits_len])) 0 (Nat.zero_le _)
theorem l_rclmay2 {g : List Sym} (hg : sigB g = true) (z : Bool) (e : List D) (c : Cl) (l0 : c.ls.length ≤ 1000) (l2 : c.ts.length ≤ 1000) (l3 : c.cs.length ≤ 1000) : ((∀ j, 0 ≤ j → j < c.cs.length → (fun i => match c.cs[i]? with | some l => atomB g l.r.l | none => true) j = true) ∧ evP F (Go.Ab.W F) (JW F d19 []) d19 [] [1,1,1,0,1] [(0, iG z g e), (3, .dbox 26 0 [.sl 2 c.lz (lits c.ls) c.le, .sl 1 c.tz (rws c.ts) c.te, .sl 2 c.cz (lits c.cs) c.ce]), (6, iI 0)] = some (.norm [(0, iG z g e), (3, .dbox 26 0 [.sl 2 c.lz (lits c.ls) c.le, .sl 1 c.tz (rws c.ts) c.te, .sl 2 c.cz (lits c.cs) c.ce]), (6, iI c.cs.length)])) ∨ ((∃ j, 0 ≤ j ∧ j < c.cs.length ∧ (fun i => match c.cs[i]? with | some l => atomB g l.r.l | none => true) j = false) ∧ evP F (Go.Ab.W F) (JW F d19 []) d19 [] [1,1,1,0,1] [(0, iG z g e), (3, .dbox 26 0 [.sl 2 c.lz (lits c.ls) c.le, .sl 1 c.tz (rws c.ts) c.te, .sl 2 c.cz (lits c.cs) c.ce]), (6, iI 0)] = some (.ret [(4, iB false)])) := by
  have hso := sigOk hg
  exact blk_all (F := F) (d := d19) (lk := []) (p := [1,1,1,0,1,0,0]) (p0 := [1,1,1,0,1]) (by kernel_rfl) (n := c.cs.length) (id := 2) (st := fun i => [(0, iG z g e), (3, .dbox 26 0 [.sl 2 c.lz (lits c.ls) c.le, .sl 1 c.tz (rws c.ts) c.te, .sl 2 c.cz (lits c.cs) c.ce]), (6, iI i)]) (q := fun i => match c.cs[i]? with | some l => atomB g l.r.l | none => true) (rt := [(4, iB false)]) (e := [(0, iG z g e), (3, .dbox 26 0 [.sl 2 c.lz (lits c.ls) c.le, .sl 1 c.tz (rws c.ts) c.te, .sl 2 c.cz (lits c.cs) c.ce]), (6, iI c.cs.length)])
    (fun i hi hq => by
      obtain ⟨l, hl⟩ := at_lt hi
      rw [hl] at hq
      dsimp only at hq
      have hm := w_rlitmay z g e l.neg l.r.z l.r.l l.r.e
      have hi' : (i : Int) < c.cs.length := by omega
      exact wpQ_way (q19_l2b _ _ z (syms g) e c.lz (lits c.ls) c.le c.tz (rws c.ts) c.te c.cz (lits c.cs) c.ce i _) (by simp [-Bool.exists_bool, -getElem?_pos, -Int.natCast_add, lits_len, hi', lits_at hl, hm, hq, wr1 hi (by omega)]))
    (fun i hi hq => by
      obtain ⟨l, hl⟩ := at_lt hi
      rw [hl] at hq
      dsimp only at hq
      have hm := w_rlitmay z g e l.neg l.r.z l.r.l l.r.e
      have hi' : (i : Int) < c.cs.length := by omega
      exact wpQ_way (q19_l2b _ _ z (syms g) e c.lz (lits c.ls) c.le c.tz (rws c.ts) c.te c.cz (lits c.cs) c.ce i _) (by simp [-Bool.exists_bool, -getElem?_pos, -Int.natCast_add, lits_len, hi', lits_at hl, hm, hq]))
    (wpQ_way (q19_l2b _ _ z (syms g) e c.lz (lits c.ls) c.le c.tz (rws c.ts) c.te c.cz (lits c.cs) c.ce _ _) (by simp [lits_len])) 0 (Nat.zero_le _)
theorem l_rclmay4 {g : List Sym} (hg : sigB g = true) (z : Bool) (e : List D) (c : Cl) (l0 : c.ls.length ≤ 1000) (l2 : c.ts.length ≤ 1000) (l3 : c.cs.length ≤ 1000) : ((∀ j, 0 ≤ j → j < c.ts.length → (fun i => match c.ts[i]?, c.ts[0]? with | some r, some s => decide (0 ≤ termsM g r.l) && (termsM g r.l == termsM g s.l) | _, _ => true) j = true) ∧ evP F (Go.Ab.W F) (JW F d19 []) d19 [] [1,1,1,1,0,1] [(0, iG z g e), (3, .dbox 26 0 [.sl 2 c.lz (lits c.ls) c.le, .sl 1 c.tz (rws c.ts) c.te, .sl 2 c.cz (lits c.cs) c.ce]), (7, iI 0)] = some (.norm [(0, iG z g e), (3, .dbox 26 0 [.sl 2 c.lz (lits c.ls) c.le, .sl 1 c.tz (rws c.ts) c.te, .sl 2 c.cz (lits c.cs) c.ce]), (7, iI c.ts.length)])) ∨ ((∃ j, 0 ≤ j ∧ j < c.ts.length ∧ (fun i => match c.ts[i]?, c.ts[0]? with | some r, some s => decide (0 ≤ termsM g r.l) && (termsM g r.l == termsM g s.l) | _, _ => true) j = false) ∧ evP F (Go.Ab.W F) (JW F d19 []) d19 [] [1,1,1,1,0,1] [(0, iG z g e), (3, .dbox 26 0 [.sl 2 c.lz (lits c.ls) c.le, .sl 1 c.tz (rws c.ts) c.te, .sl 2 c.cz (lits c.cs) c.ce]), (7, iI 0)] = some (.ret [(4, iB false)])) := by
  have hso := sigOk hg
  exact blk_all (F := F) (d := d19) (lk := []) (p := [1,1,1,1,0,1,0,0]) (p0 := [1,1,1,1,0,1]) (by kernel_rfl) (n := c.ts.length) (id := 4) (st := fun i => [(0, iG z g e), (3, .dbox 26 0 [.sl 2 c.lz (lits c.ls) c.le, .sl 1 c.tz (rws c.ts) c.te, .sl 2 c.cz (lits c.cs) c.ce]), (7, iI i)]) (q := fun i => match c.ts[i]?, c.ts[0]? with | some r, some s => decide (0 ≤ termsM g r.l) && (termsM g r.l == termsM g s.l) | _, _ => true) (rt := [(4, iB false)]) (e := [(0, iG z g e), (3, .dbox 26 0 [.sl 2 c.lz (lits c.ls) c.le, .sl 1 c.tz (rws c.ts) c.te, .sl 2 c.cz (lits c.cs) c.ce]), (7, iI c.ts.length)])
    (fun i hi hq => by
      obtain ⟨r, hr⟩ := at_lt hi
      obtain ⟨s, hs⟩ := at_lt (l := c.ts) (i := 0) (by omega)
      rw [hr, hs] at hq
      simp only [Bool.and_eq_true, beq_iff_eq, decide_eq_true_eq] at hq
      have hi' : (i : Int) < c.ts.length := by omega
      have hm := w_rterms hso z r.z e r.e r.l
      have hm2 := w_rterms hso z s.z e s.e s.l
      rw [← hq.2] at hm2
      have hn : ¬ termsM g r.l < 0 := by omega
      exact wpQ_way (q19_l4b _ _ z (syms g) e c.lz (lits c.ls) c.le c.tz (rws c.ts) c.te c.cz (lits c.cs) c.ce i _) (by simp [-Bool.exists_bool, -getElem?_pos, -Int.natCast_add, rws_len, hi', rws_at hr, rws_at hs, hm, hm2, hn, hq.1, wr1 hi (by omega)]))
    (fun i hi hq => by
      obtain ⟨r, hr⟩ := at_lt hi
      obtain ⟨s, hs⟩ := at_lt (l := c.ts) (i := 0) (by omega)
      rw [hr, hs] at hq
      have hi' : (i : Int) < c.ts.length := by omega
      have hm := w_rterms hso z r.z e r.e r.l
      have hm2 := w_rterms hso z s.z e s.e s.l
      refine wpQ_way (q19_l4b _ _ z (syms g) e c.lz (lits c.ls) c.le c.tz (rws c.ts) c.te c.cz (lits c.cs) c.ce i _) ?_
      by_cases hn : termsM g r.l < 0
      · have hn2 : ¬ 0 ≤ termsM g r.l := by omega
        simp [-Bool.exists_bool, -getElem?_pos, -Int.natCast_add, rws_len, hi', rws_at hr, rws_at hs, hm, hm2, hn, hn2]
      · have hn' : 0 ≤ termsM g r.l := by omega
        simp [hn'] at hq
        simp [-Bool.exists_bool, -getElem?_pos, -Int.natCast_add, rws_len, hi', rws_at hr, rws_at hs, hm, hm2, hn, hn', hq])
    (wpQ_way (q19_l4b _ _ z (syms g) e c.lz (lits c.ls) c.le c.tz (rws c.ts) c.te c.cz (lits c.cs) c.ce _ _) (by simp [rws_len])) 0 (Nat.zero_le _)
theorem lits_all_at {g : List Sym} (ls : List LitR) : (∀ j, 0 ≤ j → j < ls.length → (match ls[j]? with | some l => atomB g l.r.l | none => true) = true) → litsB g ls = true := fun h => by
    unfold litsB
    rw [List.all_eq_true]
    intro l hl
    obtain ⟨i, hi, he⟩ := List.getElem_of_mem hl
    have := h i (Nat.zero_le _) hi
    rw [List.getElem?_eq_getElem hi, he] at this
    exact this
theorem lits_not_at {g : List Sym} (ls : List LitR) : (∃ j, 0 ≤ j ∧ j < ls.length ∧ (match ls[j]? with | some l => atomB g l.r.l | none => true) = false) → litsB g ls = false := fun ⟨j, _, hj, h⟩ => by
    unfold litsB
    rw [List.all_eq_false]
    refine ⟨ls[j], List.getElem_mem hj, ?_⟩
    rw [List.getElem?_eq_getElem hj] at h
    dsimp only at h
    rw [h]; simp
theorem lenR_append : ∀ (a b : List Row), lenR (a ++ b) = lenR a + lenR b
  | [], b => by simp [lenR]
  | r :: a, b => by simp [lenR, lenR_append a b]; omega
theorem lenR_map : ∀ (ls : List LitR), lenR (ls.map (·.r)) = lenL ls
  | [] => rfl
  | l :: ls => by simp [lenR, lenL, lenR_map ls]
theorem lenR_rowsOf (c : Cl) : lenR (rowsOf c) = lenL c.ls + lenR c.ts + lenL c.cs := by
  unfold rowsOf; rw [lenR_append, lenR_append, lenR_map, lenR_map]
theorem rowsOf_le {g : List Sym} {c : Cl} (h1 : litsB g c.ls = true) (h2 : rowsB g c.ts = true) (h3 : litsB g c.cs = true) : ∀ r ∈ rowsOf c, r.l.length ≤ 49 := by
  intro r hr
  unfold rowsOf at hr
  unfold litsB at h1 h3
  rw [List.all_eq_true] at h1 h3
  rcases List.mem_append.1 hr with hr | hr
  · rcases List.mem_append.1 hr with hr | hr
    · obtain ⟨l, hl, rfl⟩ := List.mem_map.1 hr
      exact (atom_codes (h1 l hl)).1
    · cases hts : c.ts with
      | nil => rw [hts] at hr; simp at hr
      | cons r0 tl =>
        rw [hts] at h2 hr
        unfold rowsB rowsF at h2
        rw [List.all_eq_true] at h2
        have := h2 r hr
        simp only [Bool.and_eq_true] at this
        have := rowB_len this.1
        omega
  · obtain ⟨l, hl, rfl⟩ := List.mem_map.1 hr
    exact (atom_codes (h3 l hl)).1
theorem l_rclmay6 {R : List Row} (b : Bool) (hn : R.length ≤ 3000) (hR : ∀ r ∈ R, r.l.length ≤ 49) : evP F (Go.Ab.W F) (JW F d19 []) d19 [] [1,1,1,1,1,1,1,0,1] [(9, .own b 33 1 (rws R)), (10, iI 0), (11, iI 0)] = some (.norm [(9, .own b 33 1 (rws R)), (10, iI (lenR R)), (11, iI R.length)]) := by
  have h1 := fun x hx => blk_fun (F := F) (d := d19) (lk := []) (p := [1,1,1,1,1,1,1,0,1,0,0]) (p0 := [1,1,1,1,1,1,1,0,1]) (id := 6) (by kernel_rfl) (st := fun (x : Nat × Nat) => [(9, .own b 33 1 (rws R)), (10, iI x.2), (11, iI x.1)]) (I := fun x => x.1 ≤ R.length ∧ x.2 ≤ 49 * x.1) (μ := fun x => R.length - x.1)
    (res := fun x => .norm [(9, .own b 33 1 (rws R)), (10, iI (x.2 + lenR (R.drop x.1) : Nat)), (11, iI R.length)])
    (fun x hx => by
      obtain ⟨i, k⟩ := x
      obtain ⟨hx1, hx2⟩ := hx
      dsimp only at hx1 hx2
      by_cases hi : i < R.length
      · obtain ⟨r, hr⟩ := at_lt hi
        have hd : R.drop i = r :: R.drop (i + 1) := by
          rw [List.drop_eq_getElem_cons hi]
          rw [List.getElem?_eq_getElem hi] at hr
          cases hr; rfl
        have hl := hR r (List.mem_of_getElem? hr)
        have hi' : (i : Int) < R.length := by omega
        have hw : IntKind.wrap .i64 ((k : Int) + (r.l.length : Int)) = ((k + r.l.length : Nat) : Int) := by rw [wr _ (by omega) (by omega)]; omega
        refine .go (i + 1, k + r.l.length) (wpQ_way (q19_l6a _ _ b (rws R) k i _) ?_) ⟨by dsimp only; omega, by dsimp only; omega⟩ (by dsimp only; omega) ?_
        · simp [-Bool.exists_bool, -getElem?_pos, -Int.natCast_add, rws_len, hi', rws_at hr, ints_len, hw, wr1 hi (by omega)]
        · dsimp only; rw [hd, lenR, ← Nat.add_assoc]
      · have e1 : i = R.length := by omega
        subst e1
        refine .stop (.exit 6 [(9, .own b 33 1 (rws R)), (10, iI k), (11, iI R.length)]) (wpQ_way (q19_l6a _ _ b (rws R) k _ _) (by simp [rws_len])) rfl ?_
        simp [blkO, lenR]) x hx
  have h2 := h1 (0, 0) ⟨Nat.zero_le _, Nat.le_refl _⟩
  simp only [List.drop_zero, Nat.zero_add, Int.natCast_zero] at h2
  exact h2
theorem w_rclmay (z : Bool) (g : List Sym) (e : List D) (c : Cl) : C 19 [iG z g e, iC c] = some (iB (clB g c), [iG z g e, iC c]) := by
  refine wfn (lk := []) rfl rfl (fnW_way (q19 _ _ z (syms g) e c.lz (lits c.ls) c.le c.tz (rws c.ts) c.te c.cz (lits c.cs) c.ce _) ?_)
  have h1 := w_rmay z g e
  cases hg : sigB g
  · simp [-Bool.exists_bool, h1, hg, clB]
  by_cases l1 : c.ls.length ≤ 5
  rotate_left
  · have l1' : 5 < (c.ls.length : Int) := by omega
    simp [-Bool.exists_bool, h1, hg, clB, lits_len, l1, l1']
  have l1' : ¬ 5 < (c.ls.length : Int) := by omega
  by_cases l3 : c.cs.length ≤ 3
  rotate_left
  · have l3' : 3 < (c.cs.length : Int) := by omega
    simp [-Bool.exists_bool, h1, hg, clB, lits_len, rws_len, l1, l1', l3, l3']
  have l3' : ¬ 3 < (c.cs.length : Int) := by omega
  by_cases l2 : c.ts.length ≤ 3
  rotate_left
  · have l2' : 3 < (c.ts.length : Int) := by omega
    simp [-Bool.exists_bool, h1, hg, clB, lits_len, rws_len, l1, l1', l2, l2', l3, l3']
  have l2' : ¬ 3 < (c.ts.length : Int) := by omega
  have b1 := l_rclmay0 hg z e c (by omega) (by omega) (by omega)
  have b2 := l_rclmay2 hg z e c (by omega) (by omega) (by omega)
  have b3 := l_rclmay4 hg z e c (by omega) (by omega) (by omega)
  rw [hg] at h1
  refine ⟨true, _, h1, ?_⟩
  rw [condW_tt, condW_d, if_neg (by rw [lits_len]; omega), condW_d, if_neg (by rw [lits_len]; omega), condW_d, if_neg (by rw [rws_len]; omega)]
  rcases b1 with ⟨a1, a2⟩ | ⟨a1, a2⟩
  rotate_left
  · have hb := lits_not_at _ a1
    have hcl : clB g c = false := by simp [clB, hb]
    exact .inl ⟨_, a2, by rw [hcl]⟩
  have hb := lits_all_at _ a1
  refine .inr ⟨_, _, _, _, _, _, _, _, _, _, _, _, _, a2, ?_⟩
  rcases b2 with ⟨c1, c2⟩ | ⟨c1, c2⟩
  rotate_left
  · have hc := lits_not_at _ c1
    have hcl : clB g c = false := by simp [clB, hc]
    exact .inl ⟨_, c2, by rw [hcl]⟩
  have hc := lits_all_at _ c1
  refine .inr ⟨_, _, _, _, _, _, _, _, _, _, _, _, _, c2, ?_⟩
  rcases b3 with ⟨d1, d2⟩ | ⟨d1, d2⟩
  rotate_left
  · have hd : rowsB g c.ts = false := by
      obtain ⟨j, _, hj, hq⟩ := d1
      obtain ⟨r, hr⟩ := at_lt hj
      cases hts : c.ts with
      | nil => rw [hts] at hj; simp at hj
      | cons r0 tl =>
        rw [hts] at hr hq
        dsimp only at hq
        rw [hr] at hq
        simp only [List.getElem?_cons_zero] at hq
        unfold rowsB rowsF
        rw [List.all_eq_false]
        rcases terms_row hg r0.l with ⟨i1, i2⟩ | ⟨i1, i2⟩
        · rcases terms_row hg r.l with ⟨k1, k2⟩ | ⟨k1, k2⟩
          · refine ⟨r, List.mem_of_getElem? hr, fun hcc => ?_⟩
            simp only [Bool.and_eq_true, beq_iff_eq] at hcc
            rw [k2, i2, hcc.2] at hq; simp at hq
          · exact ⟨r, List.mem_of_getElem? hr, fun hcc => by rw [k1] at hcc; simp at hcc⟩
        · exact ⟨r0, by simp, fun hcc => by rw [i1] at hcc; simp at hcc⟩
    have hcl : clB g c = false := by simp [clB, hd]
    exact .inl ⟨_, d2, by rw [hcl]⟩
  have hd : rowsB g c.ts = true := by
    cases hts : c.ts with
    | nil => rfl
    | cons r0 tl =>
      unfold rowsB rowsF
      rw [List.all_eq_true]
      intro r hr
      obtain ⟨j, hj, he⟩ := List.getElem_of_mem hr
      have q0 := d1 0 (Nat.le_refl _) (by rw [hts]; simp)
      have qj := d1 j (Nat.zero_le _) (by rw [hts]; exact hj)
      rw [hts] at q0 qj
      dsimp only at q0 qj
      rw [List.getElem?_eq_getElem hj, he] at qj
      simp only [List.getElem?_cons_zero, Bool.and_eq_true, beq_iff_eq, decide_eq_true_eq] at q0 qj
      rcases terms_row hg r0.l with ⟨i1, i2⟩ | ⟨i1, i2⟩
      · rcases terms_row hg r.l with ⟨k1, k2⟩ | ⟨k1, k2⟩
        · rw [k1]
          rw [k2, i2] at qj
          have : termsN g r.l = termsN g r0.l := by omega
          simp [this]
        · rw [k2] at qj; omega
      · rw [i2] at q0; omega
  refine .inr ⟨_, _, _, _, _, _, _, _, _, _, _, _, _, d2, ?_⟩
  have e1 := w_rrows (c := c) (by omega) (by omega) (by omega)
  have hle := rowsOf_le hb hd hc
  have e2 := l_rclmay6 (rowsOf c).isEmpty (R := rowsOf c) (by unfold rowsOf; simp; omega) hle
  rw [lenR_rowsOf] at e2
  refine ⟨_, _, _, e1, _, _, _, _, e2, ?_⟩
  by_cases k : lenL c.ls + lenR c.ts + lenL c.cs ≤ 240
  · have hcl : clB g c = true := by simp [clB, hg, l1, l2, l3, hb, hc, hd, k]
    rw [condW_d, if_pos (by omega), hcl]
  · have hcl : clB g c = false := by simp [clB, k]
    rw [condW_d, if_neg (by omega), hcl]
end Go.Proofs.YtjhganbjbiihoaaDoor.Ab

/- Clauses: copies; the same. For every input; no condition. -/
set_option linter.unusedVariables false
set_option linter.unusedSimpArgs false
set_option maxRecDepth 100000
namespace Go.Proofs.YtjhganbjbiihoaaDoor.Ab
open Go Go.Ab Go.Qu Go.Proofs
attribute [local simp] and_assoc
def freshL (l : LitR) : LitR := ⟨l.neg, fresh l.r⟩
def LitsIn (ls : List LitR) : Prop := ls.length * 32 ≤ 140737488351232 ∧ ∀ l ∈ ls, Len l.r.l
theorem w_copylits {ls : List LitR} (h : LitsIn ls) (z : Bool) (e : List D) : C 31 [iL z ls e] = some (.own ls.isEmpty 57 2 (lits (ls.map freshL)), [iL z ls e]) := by
  obtain ⟨hn, hr⟩ := h
  refine wfn (lk := []) rfl rfl (fnW_way (q31 _ _ z (lits ls) e _) ?_)
  have h1 := blk_fun (F := F) (d := d31) (lk := []) (p := [1,1,0,1,0,0]) (p0 := [1,1,0,1]) (id := 0) (by kernel_rfl) (st := fun (i : Nat) => [(0, iL z ls e), (3, .own (ls.take i).isEmpty 57 2 (lits ((ls.take i).map freshL))), (4, iI i)]) (I := fun i => i ≤ ls.length) (μ := fun i => ls.length - i)
    (res := fun _ => .norm [(0, iL z ls e), (3, .own ls.isEmpty 57 2 (lits (ls.map freshL))), (4, iI ls.length)])
    (fun i hi => by
      by_cases h : i < ls.length
      · obtain ⟨l, hl⟩ := at_lt h
        have hL := hr l (List.mem_of_getElem? hl)
        have e1 : ls.take (i + 1) = ls.take i ++ [l] := by rw [List.take_add_one, hl]; rfl
        have e2 : (lits ((ls.take i).map freshL)).length = i := by rw [lits_len, List.length_map, List.length_take]; omega
        have hi' : (i : Int) < ls.length := by omega
        have e3 : lits ((ls.take (i + 1)).map freshL) = lits ((ls.take i).map freshL) ++ [.agg [.bool l.neg, .sl 1 false (ints l.r.l) []]] := by rw [e1, List.map_append, lits_append]; rfl
        have e4 : (ls.take (i + 1)).isEmpty = false := by rw [e1]; cases ls.take i <;> rfl
        refine .go (i + 1) (wpQ_way (q31_l0a _ _ z (lits ls) e _ _ i _) ?_) h (by omega) rfl
        have hat := lits_at hl
        cases hneg : l.neg <;> rw [hneg] at hat e3 <;> simp [-Bool.exists_bool, -getElem?_pos, -Int.natCast_add, -List.map_take, lits_len, hi', hat, w_copyints hL, wr1 h (by omega), e2, e3, e4] <;> exact ⟨by omega, by omega⟩
      · have e1 : i = ls.length := by omega
        subst e1
        refine .stop (.exit 0 [(0, iL z ls e), (3, .own ls.isEmpty 57 2 (lits (ls.map freshL))), (4, iI ls.length)]) (wpQ_way (q31_l0a _ _ z (lits ls) e _ _ ls.length _) ?_) rfl rfl
        simp [lits_len]) 0 (Nat.zero_le _)
  exact ⟨_, _, _, _, _, _, h1, rfl⟩
/-- What counts of literals. -/
def ks (l : LitR) : Bool × List Int := (l.neg, l.r.l)
theorem w_samelits {a : List LitR} (ha : LitsIn a) (b : List LitR) (z z' : Bool) (e e' : List D) : C 54 [iL z a e, iL z' b e'] = some (iB (decide (a.map ks = b.map ks)), [iL z a e, iL z' b e']) := by
  obtain ⟨hn, hr⟩ := ha
  refine wfn (lk := []) rfl rfl (fnW_way (q54 _ _ z (lits a) e z' (lits b) e' _) ?_)
  by_cases hl : a.length = b.length
  rotate_left
  · have e1 : ¬ (a.length : Int) = b.length := by omega
    have e2 : ¬ a.map ks = b.map ks := fun h => hl (by have := congrArg List.length h; simpa using this)
    simp [lits_len, e1, e2]
  rcases blk_all (F := F) (d := d54) (lk := []) (p := [1,1,0,1,0,0]) (p0 := [1,1,0,1]) (by kernel_rfl) (n := a.length) (id := 0) (st := fun i => [(0, iL z a e), (1, iL z' b e'), (5, iI i)]) (q := fun i => (a[i]?.map ks) == (b[i]?.map ks)) (rt := [(4, iB false)]) (e := [(0, iL z a e), (1, iL z' b e'), (5, iI a.length)])
    (fun i hi hq => by
      obtain ⟨x, hx⟩ := at_lt hi
      obtain ⟨y, hy⟩ := at_lt (show i < b.length by omega)
      have hxa := lits_at hx; have hya := lits_at hy
      simp [hx, hy, ks] at hq
      have hs := w_sameints (hr x (List.mem_of_getElem? hx)) y.r.l x.r.z y.r.z x.r.e y.r.e
      have hi' : (i : Int) < a.length := by omega
      rw [hq.2] at hs hxa
      refine wpQ_way (q54_l0a _ _ z (lits a) e z' (lits b) e' i _) ?_
      rw [hq.1] at hxa
      cases hneg : y.neg <;> rw [hneg] at hxa hya <;> simp [-Bool.exists_bool, -getElem?_pos, -Int.natCast_add, lits_len, wr1 hi (by omega), hi', hxa, hya, hs])
    (fun i hi hq => by
      obtain ⟨x, hx⟩ := at_lt hi
      obtain ⟨y, hy⟩ := at_lt (show i < b.length by omega)
      have hxa := lits_at hx; have hya := lits_at hy
      simp [hx, hy, ks] at hq
      have hs := w_sameints (hr x (List.mem_of_getElem? hx)) y.r.l x.r.z y.r.z x.r.e y.r.e
      have hi' : (i : Int) < a.length := by omega
      refine wpQ_way (q54_l0a _ _ z (lits a) e z' (lits b) e' i _) ?_
      cases hnx : x.neg <;> cases hny : y.neg <;> rw [hnx] at hxa <;> rw [hny] at hya <;> simp [hnx, hny] at hq <;> simp [-Bool.exists_bool, -getElem?_pos, -Int.natCast_add, lits_len, hi', hxa, hya, hs, hq])
    (wpQ_way (q54_l0a _ _ z (lits a) e z' (lits b) e' a.length _) (by simp [lits_len])) 0 (Nat.zero_le _) with ⟨h2, h3⟩ | ⟨⟨j, h2, h4, h5⟩, h3⟩
  · have hab : a.map ks = b.map ks := by
      refine List.ext_getElem? (fun i => ?_)
      by_cases hi : i < a.length
      · have := h2 i (Nat.zero_le _) hi
        simpa using this
      · rw [List.getElem?_eq_none (by simpa using hi), List.getElem?_eq_none (by simp; omega)]
    simp at h3
    simp [lits_len, hl, hab, h3]
  · have hab : ¬ a.map ks = b.map ks := fun h => by
      have := congrArg (·[j]?) h
      simp at this h5
      exact h5 this
    simp at h3
    simp [lits_len, hl, hab, h3]
/-- What a clause is made of. -/
structure ClIn (c : Cl) : Prop where
  ls : LitsIn c.ls
  most : c.ts.length * 24 ≤ 140737488351232
  rows : ∀ r ∈ c.ts, Len r.l
  cs : LitsIn c.cs
def clKey (c : Cl) : List (Bool × List Int) × List (List Int) × List (Bool × List Int) := (c.ls.map ks, c.ts.map (·.l), c.cs.map ks)
def freshC (c : Cl) : Cl := ⟨c.ls.isEmpty, c.ls.map freshL, [], c.ts.isEmpty, c.ts.map fresh, [], c.cs.isEmpty, c.cs.map freshL, []⟩
theorem freshC_key (c : Cl) : clKey (freshC c) = clKey c := by
  simp [clKey, freshC, freshL, fresh, ks]
theorem w_copyclause {c : Cl} (h : ClIn c) : C 9 [iC c] = some (.agg [.own c.ls.isEmpty 57 2 (lits (c.ls.map freshL)), .own c.ts.isEmpty 33 1 (rws (c.ts.map fresh)), .own c.cs.isEmpty 57 2 (lits (c.cs.map freshL))], [iC c]) := by
  refine wfn (lk := []) rfl rfl (fnW_way (q9 _ _ c.lz (lits c.ls) c.le c.tz (rws c.ts) c.te c.cz (lits c.cs) c.ce _) ?_)
  exact ⟨_, _, _, w_copylits h.ls _ _, _, _, _, w_copyrows h.most h.rows _ _, _, _, _, w_copylits h.cs _ _, rfl⟩
theorem w_sameclause {c : Cl} (h : ClIn c) (c' : Cl) : C 22 [iC c, iC c'] = some (iB (decide (clKey c = clKey c')), [iC c, iC c']) := by
  refine wfn (lk := []) rfl rfl (fnW_way (q22 _ _ c.lz (lits c.ls) c.le c.tz (rws c.ts) c.te c.cz (lits c.cs) c.ce c'.lz (lits c'.ls) c'.le c'.tz (rws c'.ts) c'.te c'.cz (lits c'.cs) c'.ce _) ?_)
  have h1 := w_samelits h.ls c'.ls c.lz c'.lz c.le c'.le
  have h2 := w_samerows h.most h.rows c'.ts c.tz c'.tz c.te c'.te
  have h3 := w_samelits h.cs c'.cs c.cz c'.cz c.ce c'.ce
  refine ⟨_, _, _, h1, ?_⟩
  by_cases k1 : c.ls.map ks = c'.ls.map ks
  rotate_left
  · simp [k1, clKey]
  rw [decide_eq_true k1, condW_tt]
  refine ⟨_, _, _, h2, ?_⟩
  by_cases k2 : c.ts.map (·.l) = c'.ts.map (·.l)
  rotate_left
  · simp [k2, clKey]
  rw [decide_eq_true k2, condW_tt]
  refine ⟨_, _, _, h3, ?_⟩
  by_cases k3 : c.cs.map ks = c'.cs.map ks
  · simp [k1, k2, k3, clKey]
  · simp [k3, clKey]
end Go.Proofs.YtjhganbjbiihoaaDoor.Ab

/- Clauses that say nothing: of some things one is at odds with another one just if one is with one ahead of it. Plain lists; no condition. -/
set_option linter.unusedVariables false
set_option linter.unusedSimpArgs false
namespace Go.Qu
open Go Go.Ab

/-- An equation of a term with itself. -/
def selfB (g : List Sym) (l : LC) : Bool := !l.1 && (gi l.2 0 == 0 && (match parts g l.2.tail with | some [x, y] => decide (x = y) | _ => false))
def oddB (l m : LC) : Bool := (l.1 != m.1) && decide (l.2 = m.2)
def trivB (g : List Sym) (ls : List LC) : Bool := ls.any fun l => selfB g l || ls.any (oddB l)
theorem odd_symm (l m : LC) : oddB l m = oddB m l := by
  unfold oddB
  congr 1
  · cases l.1 <;> cases m.1 <;> rfl
  · exact decide_eq_decide.2 eq_comm
theorem odd_self (l : LC) : oddB l l = false := by unfold oddB; cases l.1 <;> rfl
end Go.Qu

/- Clauses of which each part stands once: what the program's functions hand back. For every input; no condition. -/
set_option linter.unusedVariables false
set_option linter.unusedSimpArgs false
set_option maxRecDepth 100000
namespace Go.Proofs.YtjhganbjbiihoaaDoor.Ab
open Go Go.Ab Go.Qu Go.Proofs
attribute [local simp] and_assoc
theorem w_litsame {b b' z z' : Bool} {a a' : List Int} {e e' : List D} (ha : Len a) : C 73 [iLit b z a e, iLit b' z' a' e'] = some (iB (decide ((b, a) = (b', a'))), [iLit b z a e, iLit b' z' a' e']) := by
  refine wfn (lk := []) rfl rfl (fnW_way (q73 _ _ b z (ints a) e b' z' (ints a') e' _) ?_)
  have h1 := w_equal ha a' z z' e e'
  by_cases h : a = a'
  · subst h
    cases b <;> cases b' <;> simp [-Bool.exists_bool, h1]
  · cases b <;> cases b' <;> simp [-Bool.exists_bool, h1, h]
/-- A literal as a variable that is lent. -/
abbrev pL (l : LitR) : IV := .dptr [.bool l.neg, .sl 1 l.r.z (ints l.r.l) l.r.e]
abbrev pR (r : Row) : IV := .dptr [.sl 1 r.z (ints r.l) r.e]
theorem w_once1 {l m : LitR} (hl : Len l.r.l) : C 102 [iLit m.neg m.r.z m.r.l m.r.e, pL l] = some (iB (decide (l.c = m.c)), [iLit m.neg m.r.z m.r.l m.r.e, pL l]) := by
  refine wfn (lk := []) rfl rfl (fnW_way (q102 _ _ m.neg m.r.z (ints m.r.l) m.r.e l.neg l.r.z (ints l.r.l) l.r.e _) ?_)
  have h1 := w_litsame (b := l.neg) (b' := m.neg) (z := l.r.z) (z' := m.r.z) (a' := m.r.l) (e := l.r.e) (e' := m.r.e) hl
  by_cases h : l.c = m.c
  · have h2 : (l.neg, l.r.l) = (m.neg, m.r.l) := h
    rw [h2] at h1
    simp [-Bool.exists_bool, h1, h2, h]
  · have h2 : ¬ (l.neg, l.r.l) = (m.neg, m.r.l) := h
    rw [decide_eq_false h2] at h1
    simp [-Bool.exists_bool, h1, h]
/-- The place of the first thing of which a question is told true. -/
def idxQ {α : Type} (q : α → Bool) (l : List α) : Int := match l.findIdx? q with | some i => i | none => -1
theorem idxQ_some {α : Type} {q : α → Bool} {l : List α} {j : Nat} (hj : j < l.length) (hq : q l[j] = true) (hk : ∀ k, k < j → ∀ x, l[k]? = some x → q x = false) : idxQ q l = (j : Int) := by
  have : l.findIdx? q = some j := by
    rw [List.findIdx?_eq_some_iff_getElem]
    exact ⟨hj, hq, fun k hk' => by
      have := hk k hk' l[k] (by simp)
      simp [this]⟩
  unfold idxQ; rw [this]
theorem idxQ_none {α : Type} {q : α → Bool} {l : List α} (hk : ∀ k, k < l.length → ∀ x, l[k]? = some x → q x = false) : idxQ q l = -1 := by
  have : l.findIdx? q = none := by
    rw [List.findIdx?_eq_none_iff]
    intro x hx
    obtain ⟨i, hi, rfl⟩ := List.getElem_of_mem hx
    exact hk i hi _ (by simp)
  unfold idxQ; rw [this]
theorem idxQ_any {α : Type} (q : α → Bool) (l : List α) : decide (idxQ q l ≥ 0) = l.any q := by
  unfold idxQ
  cases h : l.findIdx? q with
  | none =>
    have : l.any q = false := by
      rw [List.any_eq_false]
      intro x hx; simp [List.findIdx?_eq_none_iff.1 h x hx]
    rw [this]; rfl
  | some i =>
    have : l.any q = true := by
      obtain ⟨hi, hq, _⟩ := List.findIdx?_eq_some_iff_getElem.1 h
      exact List.any_eq_true.2 ⟨_, List.getElem_mem hi, hq⟩
    rw [this]; simp
theorem w_idxonce {l : LitR} (hl : Len l.r.l) {ls : List LitR} (hn : ls.length ≤ 1000) (z : Bool) (e : List D) : C 69 [iL z ls e, .fn 102 [pL l]] = some (iI (idxQ (fun m => decide (l.c = m.c)) ls), [iL z ls e, .fn 102 [pL l]]) := by
  refine wfn (lk := [1]) rfl rfl (fnW_way (q69v1 _ _ z (lits ls) e l.neg l.r.z (ints l.r.l) l.r.e _) ?_)
  have hl := blk_find (F := F) (d := d69) (lk := [1]) (p := [1,0,1,0,0]) (p0 := [1,0,1]) (by kernel_rfl) (n := ls.length) (id := 0) (st := fun i => [(0, iL z ls e), (1, .fn 102 [pL l]), (7, iI ls.length), (8, iI i)]) (q := fun i => match ls[i]? with | some m => decide (l.c = m.c) | none => false) (rt := fun i => [(1, .fn 102 [pL l]), (4, iI i)]) (e := [(0, iL z ls e), (1, .fn 102 [pL l]), (7, iI ls.length), (8, iI ls.length)])
    (fun i hi hq => by
      refine wpQ_way (q69_l0b _ _ z (lits ls) e l.neg l.r.z (ints l.r.l) l.r.e _ i _) ?_
      obtain ⟨m, hm⟩ := at_lt hi
      have h1 := w_once1 (l := l) (m := m) hl
      rw [hm] at hq
      dsimp only at hq
      rw [hq] at h1
      simp [-Bool.exists_bool, -getElem?_pos, -Int.natCast_add, wr1 hi (by omega), hi, lits_at hm, h1])
    (fun i hi hq => by
      refine wpQ_way (q69_l0b _ _ z (lits ls) e l.neg l.r.z (ints l.r.l) l.r.e _ i _) ?_
      obtain ⟨m, hm⟩ := at_lt hi
      have h1 := w_once1 (l := l) (m := m) hl
      rw [hm] at hq
      dsimp only at hq
      rw [hq] at h1
      simp [-Bool.exists_bool, -getElem?_pos, -Int.natCast_add, wr1 hi (by omega), hi, lits_at hm, h1])
    (wpQ_way (q69_l0b _ _ z (lits ls) e l.neg l.r.z (ints l.r.l) l.r.e _ ls.length _) (by simp)) 0 (Nat.zero_le _)
  rcases hl with ⟨h2, h3⟩ | ⟨j, h1, h2, h4, h5, h3⟩
  · rw [idxQ_none (fun k hk t ht => by have := h2 k (Nat.zero_le _) hk; rw [ht] at this; exact this)]
    rw [lits_len]
    exact .inr (.inr (.inr ⟨_, _, _, _, _, _, _, _, _, h3, rfl⟩))
  · rw [idxQ_some h2 (by have := h4; rw [List.getElem?_eq_getElem h2] at this; exact this) (fun k hk t ht => by have := h5 k (Nat.zero_le _) hk; rw [ht] at this; exact this)]
    rw [lits_len]
    exact .inr (.inr (.inl ⟨_, _, _, _, _, h3, rfl⟩))
theorem w_hasonce {l : LitR} (hl : Len l.r.l) {ls : List LitR} (hn : ls.length ≤ 1000) (z : Bool) (e : List D) : C 39 [iL z ls e, .fn 102 [pL l]] = some (iB (decide (l.c ∈ ls.map LitR.c)), [iL z ls e, .fn 102 [pL l]]) := by
  refine wfn (lk := [1]) rfl rfl (fnW_way (q39v1 _ _ z (lits ls) e l.neg l.r.z (ints l.r.l) l.r.e _) ?_)
  have h1 := w_idxonce hl hn z e
  have h2 := idxQ_any (fun m => decide (l.c = m.c)) ls
  have h3 : (ls.any fun m => decide (l.c = m.c)) = decide (l.c ∈ ls.map LitR.c) := by
    rw [Bool.eq_iff_iff]
    simp only [List.any_eq_true, decide_eq_true_eq, List.mem_map]
    exact ⟨fun ⟨m, hm, h⟩ => ⟨m, hm, h.symm⟩, fun ⟨m, hm, h⟩ => ⟨m, hm, h.symm⟩⟩
  rw [h3] at h2
  rw [← h2]
  by_cases h : 0 ≤ idxQ (fun m => decide (l.c = m.c)) ls
  · simp [-Bool.exists_bool, h1, h]
  · simp [-Bool.exists_bool, h1, h]; omega
theorem w_clonce {ls : List LitR} (hn : ls.length ≤ 1000) (hl : ∀ l ∈ ls, Len l.r.l) (z : Bool) (e : List D) : C 75 [iL z ls e] = some (.own (onceK LitR.c [] ls).isEmpty 57 2 (lits (onceK LitR.c [] ls)), [iL z ls e]) := by
  refine wfn (lk := []) rfl rfl (fnW_way (q75 _ _ z (lits ls) e _) ?_)
  have h1 := fun x hx => blk_fun (F := F) (d := d75) (lk := []) (p := [1,1,0,1,0,0]) (p0 := [1,1,0,1]) (id := 0) (by kernel_rfl) (st := fun (x : List LitR × Nat) => [(3, .own x.1.isEmpty 57 2 (lits x.1)), (6, iL z ls e), (7, iI ls.length), (8, iI x.2)]) (I := fun x => x.2 ≤ ls.length ∧ x.1.length ≤ x.2) (μ := fun x => ls.length - x.2)
    (res := fun x => .norm [(3, .own (onceK LitR.c x.1 (ls.drop x.2)).isEmpty 57 2 (lits (onceK LitR.c x.1 (ls.drop x.2)))), (6, iL z ls e), (7, iI ls.length), (8, iI ls.length)])
    (fun x hx => by
      obtain ⟨us, i⟩ := x
      obtain ⟨hx1, hx2⟩ := hx
      dsimp only at hx1 hx2
      by_cases hi : i < ls.length
      · obtain ⟨l, hl1⟩ := at_lt hi
        have hd : ls.drop i = l :: ls.drop (i + 1) := by
          rw [List.drop_eq_getElem_cons hi]
          rw [List.getElem?_eq_getElem hi] at hl1
          cases hl1; rfl
        have hlm : l ∈ ls := List.mem_of_getElem? hl1
        have hc := w_hasonce (hl l hlm) (ls := us) (by omega) us.isEmpty []
        have hi' : (i : Int) < ls.length := by omega
        by_cases hm : l.c ∈ us.map LitR.c
        · rw [decide_eq_true hm] at hc
          refine .go (us, i + 1) (wpQ_way (q75_l0a _ _ us.isEmpty (lits us) z (lits ls) e _ i _) ?_) ⟨by dsimp only; omega, by dsimp only; omega⟩ (by dsimp only; omega) ?_
          · simp [-Bool.exists_bool, -getElem?_pos, -Int.natCast_add, hi', lits_at hl1, hc, wr1 hi (by omega)]
          · dsimp only; rw [hd, onceK, if_pos hm]
        · rw [decide_eq_false hm] at hc
          refine .go (us ++ [l], i + 1) (wpQ_way (q75_l0a _ _ us.isEmpty (lits us) z (lits ls) e _ i _) ?_) ⟨by dsimp only; omega, by simp; omega⟩ (by dsimp only; omega) ?_
          · have k1 : us.length + 1 ≤ 9223372036854775807 := by omega
            have k2 : (us.length + 1) * 32 ≤ 140737488355328 := by omega
            simp [-Bool.exists_bool, -getElem?_pos, -Int.natCast_add, hi', lits_at hl1, hc, wr1 hi (by omega), lits_len, k1, k2, lits_append, lits_cons, lits_nil, D.cells]
          · dsimp only; rw [hd, onceK, if_neg hm]
      · have e1 : i = ls.length := by omega
        subst e1
        refine .stop (.exit 0 [(3, .own us.isEmpty 57 2 (lits us)), (6, iL z ls e), (7, iI ls.length), (8, iI ls.length)]) (wpQ_way (q75_l0a _ _ us.isEmpty (lits us) z (lits ls) e _ _ _) (by simp)) rfl ?_
        simp [blkO, onceK]) x hx
  have h2 : evP F (Go.Ab.W F) (JW F d75 []) d75 [] [1,1,0,1] [(3, .own true 57 2 []), (6, iL z ls e), (7, iI ls.length), (8, iI 0)] = _ := h1 ([], 0) ⟨Nat.zero_le _, Nat.le_refl _⟩
  rw [List.drop_zero] at h2
  simp [-Bool.exists_bool, lits_len, h2]
/-! ### Rows -/
theorem w_anew1 {r : Row} (hr : Len r.l) (z : Bool) (u : List Int) (e : List D) : C 77 [iS z u e, pR r] = some (iB (decide (r.l = u)), [iS z u e, pR r]) := by
  refine wfn (lk := []) rfl rfl (fnW_way (q77 _ _ z (ints u) e r.z (ints r.l) r.e _) ?_)
  have h1 := w_equal hr u r.z z r.e e
  by_cases h : r.l = u
  · subst h; simp [-Bool.exists_bool, h1]
  · simp [-Bool.exists_bool, h1, h]
theorem w_idxrow {r : Row} (hr : Len r.l) {ts : List Row} (hn : ts.length ≤ 1000) (z : Bool) (e : List D) : C 103 [iR z ts e, .fn 77 [pR r]] = some (iI (idxQ (fun u => decide (r.l = u.l)) ts), [iR z ts e, .fn 77 [pR r]]) := by
  refine wfn (lk := [1]) rfl rfl (fnW_way (q103 _ _ z (rws ts) e r.z (ints r.l) r.e _) ?_)
  have hl := blk_find (F := F) (d := d103) (lk := [1]) (p := [1,0,1,0,0]) (p0 := [1,0,1]) (by kernel_rfl) (n := ts.length) (id := 0) (st := fun i => [(0, iR z ts e), (1, .fn 77 [pR r]), (7, iI ts.length), (8, iI i)]) (q := fun i => match ts[i]? with | some u => decide (r.l = u.l) | none => false) (rt := fun i => [(1, .fn 77 [pR r]), (4, iI i)]) (e := [(0, iR z ts e), (1, .fn 77 [pR r]), (7, iI ts.length), (8, iI ts.length)])
    (fun i hi hq => by
      refine wpQ_way (q103_l0a _ _ z (rws ts) e r.z (ints r.l) r.e _ i _) ?_
      obtain ⟨m, hm⟩ := at_lt hi
      have h1 := w_anew1 hr m.z m.l m.e
      rw [hm] at hq
      dsimp only at hq
      rw [hq] at h1
      simp [-Bool.exists_bool, -getElem?_pos, -Int.natCast_add, wr1 hi (by omega), hi, rws_at hm, h1])
    (fun i hi hq => by
      refine wpQ_way (q103_l0a _ _ z (rws ts) e r.z (ints r.l) r.e _ i _) ?_
      obtain ⟨m, hm⟩ := at_lt hi
      have h1 := w_anew1 hr m.z m.l m.e
      rw [hm] at hq
      dsimp only at hq
      rw [hq] at h1
      simp [-Bool.exists_bool, -getElem?_pos, -Int.natCast_add, wr1 hi (by omega), hi, rws_at hm, h1])
    (wpQ_way (q103_l0a _ _ z (rws ts) e r.z (ints r.l) r.e _ ts.length _) (by simp)) 0 (Nat.zero_le _)
  rcases hl with ⟨h2, h3⟩ | ⟨j, h1, h2, h4, h5, h3⟩
  · rw [idxQ_none (fun k hk t ht => by have := h2 k (Nat.zero_le _) hk; rw [ht] at this; exact this)]
    rw [rws_len]
    exact .inr ⟨_, _, _, _, _, _, _, _, h3, rfl⟩
  · rw [idxQ_some h2 (by have := h4; rw [List.getElem?_eq_getElem h2] at this; exact this) (fun k hk t ht => by have := h5 k (Nat.zero_le _) hk; rw [ht] at this; exact this)]
    rw [rws_len]
    exact .inl ⟨_, _, _, _, h3, rfl⟩
theorem w_hasrow {r : Row} (hr : Len r.l) {ts : List Row} (hn : ts.length ≤ 1000) (z : Bool) (e : List D) : C 76 [iR z ts e, .fn 77 [pR r]] = some (iB (decide (r.l ∈ ts.map (·.l))), [iR z ts e, .fn 77 [pR r]]) := by
  refine wfn (lk := [1]) rfl rfl (fnW_way (q76 _ _ z (rws ts) e r.z (ints r.l) r.e _) ?_)
  have h1 := w_idxrow hr hn z e
  have h2 := idxQ_any (fun u => decide (r.l = u.l)) ts
  have h3 : (ts.any fun u => decide (r.l = u.l)) = decide (r.l ∈ ts.map (·.l)) := by
    rw [Bool.eq_iff_iff]
    simp only [List.any_eq_true, decide_eq_true_eq, List.mem_map]
    exact ⟨fun ⟨m, hm, h⟩ => ⟨m, hm, h.symm⟩, fun ⟨m, hm, h⟩ => ⟨m, hm, h.symm⟩⟩
  rw [h3] at h2
  rw [← h2]
  by_cases h : 0 ≤ idxQ (fun u => decide (r.l = u.l)) ts
  · simp [-Bool.exists_bool, h1, h]
  · simp [-Bool.exists_bool, h1, h]; omega
theorem w_clone {t : List Int} (ht : Len t) (z : Bool) (hz : z = true → t = []) (e : List D) : C 80 [iS z t e] = some (.own z 3 1 (ints t), [iS z t e]) := by
  refine wfn (lk := []) rfl rfl (fnW_way (q80 _ _ z (ints t) e _) ?_)
  cases z with
  | true => have := hz rfl; subst this; simp [-Bool.exists_bool, ints_nil]
  | false =>
    have h1 : (ints t).length ≤ 9223372036854775807 := by rw [ints_len]; unfold Len at ht; omega
    have h2 : (ints t).length * 8 ≤ 140737488355328 := by rw [ints_len]; unfold Len at ht; omega
    simp [-Bool.exists_bool, h1, h2]
end Go.Proofs.YtjhganbjbiihoaaDoor.Ab

/- Clauses with their variables numbered anew: what the program's functions hand back. For every input; no condition. -/
set_option linter.unusedVariables false
set_option linter.unusedSimpArgs false
set_option maxRecDepth 100000
namespace Go.Proofs.YtjhganbjbiihoaaDoor.Ab
open Go Go.Ab Go.Qu Go.Proofs
attribute [local simp] and_assoc
/-- The table of what variables are called. -/
def toA (s : List Int) : List Int := (List.range 24).map fun (v : Nat) => if (-1 - (v : Int)) ∈ s then ((s.idxOf (-1 - (v : Int)) + 1 : Nat) : Int) else 0
theorem toA_len (s : List Int) : (toA s).length = 24 := by simp [toA]
theorem toA_at (s : List Int) {v : Nat} (hv : v < 24) : (ints (toA s))[v]? = some (.int .i64 (if (-1 - (v : Int)) ∈ s then ((s.idxOf (-1 - (v : Int)) + 1 : Nat) : Int) else 0)) := by
  simp [ints, toA, hv]
theorem toA_set {s : List Int} {v : Nat} (hv : v < 24) (hs : ¬ (-1 - (v : Int)) ∈ s) : (ints (toA s)).set v (.int .i64 ((s.length + 1 : Nat) : Int)) = ints (toA (s ++ [-1 - (v : Int)])) := by
  have h1 : (toA s).set v ((s.length + 1 : Nat) : Int) = toA (s ++ [-1 - (v : Int)]) := by
    refine List.ext_getElem (by simp [toA]) (fun i h1 h2 => ?_)
    have hi : i < 24 := by simpa [toA] using h1
    rw [List.getElem_set]
    by_cases hvi : v = i
    · subst hvi
      rw [if_pos rfl]
      simp only [toA, List.getElem_map, List.getElem_range]
      rw [if_pos (by simp), List.idxOf_append, if_neg hs]
      simp
    · rw [if_neg hvi]
      simp only [toA, List.getElem_map, List.getElem_range, List.mem_append, List.mem_singleton]
      have hne : ¬ (-1 - (i : Int)) = -1 - (v : Int) := by omega
      by_cases hm : (-1 - (i : Int)) ∈ s
      · rw [if_pos hm, if_pos (.inl hm), List.idxOf_append, if_pos hm]
      · rw [if_neg hm, if_neg (by rintro (h | h); exact hm h; exact hne h)]
  rw [← h1]; simp [ints, List.map_set]
/-- A row's codes one by one, as the variables come up. -/
def stepR : List Int → List Int → List Int
  | _, [] => []
  | s, c :: r => renC (addS s c) c :: stepR (addS s c) r
theorem stepR_ren : ∀ (r s : List Int), stepR s r = renR (seenR s r) r
  | [], s => rfl
  | c :: r, s => by
    obtain ⟨t, ht⟩ := pre_seenR r (addS s c)
    have h1 : renC (seenR (addS s c) r) c = renC (addS s c) c := by
      rw [ht]; exact ren_pre t (fun h0 => mem_addS.2 (.inr ⟨rfl, h0⟩))
    show renC (addS s c) c :: stepR (addS s c) r = renR (seenR (addS s c) r) (c :: r)
    rw [renR, List.map_cons, h1, stepR_ren r (addS s c)]; rfl
theorem ints_mid (a b : List Int) (c : Int) : (ints (a ++ c :: b))[a.length]? = some (.int .i64 c) := by simp [ints]
theorem ints_midset (a b : List Int) (c d : Int) : (ints (a ++ c :: b)).set a.length (.int .i64 d) = ints (a ++ d :: b) := by simp [ints]
/-- Variables of which there are twenty-four at most. -/
structure SeenOk (s : List Int) : Prop where
  nd : s.Nodup
  neg : ∀ c ∈ s, c < 0 ∧ -24 ≤ c
theorem SeenOk.len {s : List Int} (h : SeenOk s) : s.length ≤ 24 := by
  have := sub_len s (firsts 24) h.nd (fun x hx => mem_firsts.2 ⟨(h.neg x hx).1, by have := (h.neg x hx).2; omega⟩)
  rwa [firsts_len] at this
theorem SeenOk.add {s : List Int} (h : SeenOk s) {c : Int} (hc : -24 ≤ c) : SeenOk (addS s c) :=
  ⟨nodup_addS h.nd, fun x hx => by
    rcases mem_addS.1 hx with h1 | ⟨rfl, h1⟩
    · exact h.neg x h1
    · exact ⟨h1, hc⟩⟩
theorem SeenOk.row : ∀ {r s : List Int}, SeenOk s → (∀ c ∈ r, -24 ≤ c) → SeenOk (seenR s r)
  | [], s, h, _ => h
  | c :: r, s, h, hc => SeenOk.row (r := r) (h.add (hc c (by simp))) (fun x hx => hc x (by simp [hx]))
theorem SeenOk.rows : ∀ {rs : List (List Int)} {s : List Int}, SeenOk s → (∀ r ∈ rs, ∀ c ∈ r, -24 ≤ c) → SeenOk (seenRs s rs)
  | [], s, h, _ => h
  | r :: rs, s, h, hc => SeenOk.rows (rs := rs) (h.row (hc r (by simp))) (fun x hx => hc x (by simp [hx]))
theorem w_anew2 {r : List Int} (hr : Len r) (z : Bool) (hz : z = true → r = []) (hc : ∀ c ∈ r, -24 ≤ c) (e : List D) {s : List Int} (hs : SeenOk s) : C 79 [iS z r e, .dbox 101 0 (ints (toA s)), .dbox 3 0 [.int .i64 s.length]] = some (.own z 3 1 (ints (stepR s r)), [iS z r e, .dbox 101 0 (ints (toA (seenR s r))), .dbox 3 0 [.int .i64 (seenR s r).length]]) := by
  refine wfn (lk := [1, 2]) rfl rfl (fnW_way (q79 _ _ z (ints r) e (ints (toA s)) s.length _) ?_)
  have hcl := w_clone hr z hz e
  have h1 := fun x hx => blk_fun (F := F) (d := d79) (lk := [1, 2]) (p := [1,1,0,1,0,0]) (p0 := [1,1,0,1]) (id := 0) (by kernel_rfl) (st := fun (x : List Int × List Int × List Int) => [(1, .dbox 101 0 (ints (toA x.2.2))), (2, .dbox 3 0 [.int .i64 x.2.2.length]), (5, .own z 3 1 (ints (x.1 ++ x.2.1))), (11, iI r.length), (12, iI x.1.length), (2010045, .dead)]) (I := fun x => x.1.length + x.2.1.length = r.length ∧ SeenOk x.2.2 ∧ ∀ c ∈ x.2.1, -24 ≤ c) (μ := fun x => x.2.1.length)
    (res := fun x => .norm [(1, .dbox 101 0 (ints (toA (seenR x.2.2 x.2.1)))), (2, .dbox 3 0 [.int .i64 (seenR x.2.2 x.2.1).length]), (5, .own z 3 1 (ints (x.1 ++ stepR x.2.2 x.2.1))), (11, iI r.length), (12, iI r.length), (2010045, .dead)])
    (fun x hx => by
      obtain ⟨a, b, s⟩ := x
      obtain ⟨hx1, hx2, hx3⟩ := hx
      dsimp only at hx1 hx2 hx3
      cases b with
      | nil =>
        have e1 : a.length = r.length := by simpa using hx1
        refine .stop (.exit 0 [(1, .dbox 101 0 (ints (toA s))), (2, .dbox 3 0 [.int .i64 s.length]), (5, .own z 3 1 (ints (a ++ []))), (11, iI r.length), (12, iI a.length), (2010045, .dead)]) (wpQ_way (q79_l0a _ _ (ints (toA s)) s.length z (ints (a ++ [])) r.length a.length _) (by simp [e1])) rfl ?_
        simp [blkO, e1, stepR, seenR]
      | cons c b =>
        have hlen : a.length < r.length := by simp at hx1; omega
        have hi' : (a.length : Int) < r.length := by omega
        have hi0 : (0 : Int) ≤ (a.length : Int) := by omega
        have hr' : r.length ≤ 9223372036854775807 := by unfold Len at hr; omega
        have hc := hx3 c (by simp)
        have hok := hx2.len
        have ha := ints_mid a b c
        have hw1 : IntKind.wrap .i64 ((a.length : Int) + 1) = ((a ++ [renC (addS s c) c]).length : Int) := by rw [wr1 hlen hr']; simp
        have hst : ∀ d : Int, a ++ d :: b = (a ++ [d]) ++ b := fun d => by simp
        by_cases h0 : 0 ≤ c
        · have hs' : addS s c = s := by simp [addS, h0]
          have hrc : renC s c = c := by simp [renC, h0]
          have h0n : ¬ c < 0 := by omega
          refine .go (a ++ [c], b, s) (wpQ_way (q79_l0a _ _ (ints (toA s)) s.length z (ints (a ++ c :: b)) r.length a.length _) ?_) ⟨by simp at hx1 ⊢; omega, hx2, fun x hx => hx3 x (by simp [hx])⟩ (by simp) ?_
          · rw [hs', hrc] at hw1
            simp [-Bool.exists_bool, -getElem?_pos, -Int.natCast_add, -List.length_append, hi', ha, h0, h0n, hw1]
          · dsimp only; rw [stepR, hs', hrc]; simp [seenR, hs']
        · have hn := w_number c
          have hv1 : IntKind.wrap .i64 (-1 - c) = ((-1 - c).toNat : Int) := by rw [wr _ (by omega) (by omega)]; omega
          obtain ⟨v, hv⟩ : ∃ v : Nat, v = (-1 - c).toNat := ⟨_, rfl⟩
          have hcv : c = -1 - (v : Int) := by omega
          have hv24 : v < 24 := by omega
          rw [hv1, ← hv] at hn
          have hta := toA_at s hv24
          rw [← hcv] at hta
          have hvi : (v : Int) < 24 := by omega
          by_cases hm : c ∈ s
          · have hs' : addS s c = s := by simp [addS, h0, hm]
            have hrc : renC s c = -1 - (s.idxOf c : Nat) := by simp [renC, h0]
            rw [if_pos hm] at hta
            have hne : ¬ ((s.idxOf c + 1 : Nat) : Int) = 0 := by omega
            have hil := List.idxOf_lt_length_of_mem hm
            have hw2 : IntKind.wrap .i64 (0 - ((s.idxOf c + 1 : Nat) : Int)) = renC s c := by rw [wr _ (by omega) (by omega), hrc]; omega
            have hw2n := hw2
            rw [Int.zero_sub] at hw2n
            refine .go (a ++ [renC s c], b, s) (wpQ_way (q79_l0a _ _ (ints (toA s)) s.length z (ints (a ++ c :: b)) r.length a.length _) ?_) ⟨by simp at hx1 ⊢; omega, hx2, fun x hx => hx3 x (by simp [hx])⟩ (by simp) ?_
            · rw [hs'] at hw1
              have hset := ints_midset a b c (renC s c)
              simp [-Bool.exists_bool, -getElem?_pos, -Int.natCast_add, -List.length_append, hi', ha, h0, hw1, hn, hta, hvi, hne, hw2, hw2n, hset]
            · dsimp only; rw [stepR, hs']; simp [seenR, hs']
          · have hs' : addS s c = s ++ [c] := by simp [addS, h0, hm]
            have hrc : renC (s ++ [c]) c = -1 - (s.length : Nat) := by
              rw [renC, if_neg h0, List.idxOf_append, if_neg hm]; simp
            rw [if_neg hm] at hta
            have hw2 : IntKind.wrap .i64 ((s.length : Int) + 1) = ((s.length + 1 : Nat) : Int) := by rw [wr _ (by omega) (by omega)]; omega
            have hw3 : IntKind.wrap .i64 (0 - ((s.length + 1 : Nat) : Int)) = renC (s ++ [c]) c := by rw [wr _ (by omega) (by omega), hrc]; omega
            have hw3n := hw3
            rw [Int.zero_sub] at hw3n
            have hm' : ¬ (-1 - (v : Int)) ∈ s := by rw [← hcv]; exact hm
            have hset := toA_set hv24 hm'
            rw [← hcv] at hset
            have hta2 := toA_at (s ++ [c]) hv24
            rw [← hcv, if_pos (by simp), List.idxOf_append, if_neg hm] at hta2
            have hix : List.idxOf c [c] + s.length + 1 = s.length + 1 := by simp
            rw [hix] at hta2
            refine .go (a ++ [renC (s ++ [c]) c], b, s ++ [c]) (wpQ_way (q79_l0a _ _ (ints (toA s)) s.length z (ints (a ++ c :: b)) r.length a.length _) ?_) ⟨by simp at hx1 ⊢; omega, by rw [← hs']; exact hx2.add hc, fun x hx => hx3 x (by simp [hx])⟩ (by simp) ?_
            · rw [hs'] at hw1
              have hset2 := ints_midset a b c (renC (s ++ [c]) c)
              have hv23 : (v : Int) ≤ 23 := by omega
              have hlt : v + 1 ≤ 24 := hv24
              have hls : ((s ++ [c]).length : Int) = ((s.length + 1 : Nat) : Int) := by simp
              rw [hls]
              simp [-Bool.exists_bool, -getElem?_pos, -Int.natCast_add, -List.length_append, hi', ha, h0, hw1, hn, hta, hvi, hw2, hw3, hw3n, hset2, hset, hta2, hv23, ints_len, toA_len, hlt, D.cells, setR]
            · dsimp only; rw [stepR, hs']; simp [seenR, hs']) x hx
  have h2 : evP F (Go.Ab.W F) (JW F d79 [1, 2]) d79 [1, 2] [1,1,0,1] [(1, .dbox 101 0 (ints (toA s))), (2, .dbox 3 0 [.int .i64 s.length]), (5, .own z 3 1 (ints r)), (11, iI r.length), (12, iI 0), (2010045, .dead)] = _ := h1 ([], r, s) ⟨by simp, hs, hc⟩
  rw [List.nil_append] at h2
  refine ⟨_, _, _, hcl, ?_⟩
  rw [ints_len]
  exact ⟨_, _, _, _, _, _, h2, rfl⟩
/-- Literals, rows, one by one. -/
def eachL : List Int → List LitR → List LitR
  | _, [] => []
  | s, l :: ls => ⟨l.neg, ⟨l.r.z, stepR s l.r.l, []⟩⟩ :: eachL (seenR s l.r.l) ls
def eachR : List Int → List Row → List Row
  | _, [] => []
  | s, r :: rs => ⟨r.z, stepR s r.l, []⟩ :: eachR (seenR s r.l) rs
structure RowOk (r : Row) : Prop where
  len : Len r.l
  nil : r.z = true → r.l = []
  cod : ∀ c ∈ r.l, -24 ≤ c
abbrev seenLs (s : List Int) (ls : List LitR) : List Int := seenRs s (ls.map fun l => l.r.l)
abbrev seenTs (s : List Int) (ts : List Row) : List Int := seenRs s (ts.map fun r => r.l)
abbrev fA (s : List Int) : IV := .fn 79 [.dbox 101 0 (ints (toA s)), .dbox 3 0 [.int .i64 s.length]]
abbrev bC (c : Cl) : IV := .dbox 26 0 [.sl 2 c.lz (lits c.ls) c.le, .sl 1 c.tz (rws c.ts) c.te, .sl 2 c.cz (lits c.cs) c.ce]
abbrev b0 : IV := .dbox 26 0 [.sl 2 true [] [], .sl 1 true [] [], .sl 2 true [] []]
abbrev bO (us : List LitR) (vs : List Row) (ws : List LitR) : IV := .ptr 26 0 [.own us.isEmpty 57 2 (lits us), .own vs.isEmpty 33 1 (rws vs), .own ws.isEmpty 57 2 (lits ws)]
theorem l_each0 {c : Cl} (hn : c.ls.length ≤ 1000) (hr : ∀ l ∈ c.ls, RowOk l.r) (vs : List Row) (ws : List LitR) (x : List LitR × Nat × List Int) (hx : x.2.1 ≤ c.ls.length ∧ x.1.length = x.2.1 ∧ SeenOk x.2.2) : evP F (Go.Ab.W F) (JW F d78 [1]) d78 [1] [1,1,0,1] [(1, fA x.2.2), (2, bC c), (4, b0), (5, bO x.1 vs ws), (13, iL c.lz c.ls c.le), (14, iI c.ls.length), (15, iI x.2.1)] = some (.norm [(1, fA (seenLs x.2.2 (c.ls.drop x.2.1))), (2, bC c), (4, b0), (5, bO (x.1 ++ eachL x.2.2 (c.ls.drop x.2.1)) vs ws), (13, iL c.lz c.ls c.le), (14, iI c.ls.length), (15, iI c.ls.length)]) :=
  blk_fun (F := F) (d := d78) (lk := [1]) (p := [1,1,0,1,0,0]) (p0 := [1,1,0,1]) (id := 0) (by kernel_rfl) (st := fun (x : List LitR × Nat × List Int) => [(1, fA x.2.2), (2, bC c), (4, b0), (5, bO x.1 vs ws), (13, iL c.lz c.ls c.le), (14, iI c.ls.length), (15, iI x.2.1)]) (I := fun x => x.2.1 ≤ c.ls.length ∧ x.1.length = x.2.1 ∧ SeenOk x.2.2) (μ := fun x => c.ls.length - x.2.1)
    (res := fun x => .norm [(1, fA (seenLs x.2.2 (c.ls.drop x.2.1))), (2, bC c), (4, b0), (5, bO (x.1 ++ eachL x.2.2 (c.ls.drop x.2.1)) vs ws), (13, iL c.lz c.ls c.le), (14, iI c.ls.length), (15, iI c.ls.length)])
    (fun x hx => by
      obtain ⟨us, i, s⟩ := x
      obtain ⟨hx1, hx2, hx3⟩ := hx
      dsimp only at hx1 hx2 hx3
      by_cases hi : i < c.ls.length
      · obtain ⟨l, hl1⟩ := at_lt hi
        have hd : c.ls.drop i = l :: c.ls.drop (i + 1) := by
          rw [List.drop_eq_getElem_cons hi]
          rw [List.getElem?_eq_getElem hi] at hl1
          cases hl1; rfl
        have hok := hr l (List.mem_of_getElem? hl1)
        have hc := w_anew2 hok.len l.r.z hok.nil hok.cod l.r.e hx3
        have hi' : (i : Int) < c.ls.length := by omega
        refine .go (us ++ [⟨l.neg, ⟨l.r.z, stepR s l.r.l, []⟩⟩], i + 1, seenR s l.r.l) (wpQ_way (q78_l0a _ _ (ints (toA s)) s.length c.lz (lits c.ls) c.le c.tz (rws c.ts) c.te c.cz (lits c.cs) c.ce us.isEmpty (lits us) vs.isEmpty (rws vs) ws.isEmpty (lits ws) c.lz (lits c.ls) c.le c.ls.length i _) ?_) ⟨by dsimp only; omega, by simp; omega, hx3.row hok.cod⟩ (by dsimp only; omega) ?_
        · have k1 : us.length + 1 ≤ 9223372036854775807 := by omega
          have k2 : (us.length + 1) * 32 ≤ 140737488355328 := by omega
          cases hneg : l.neg <;> simp [-Bool.exists_bool, -getElem?_pos, -Int.natCast_add, hi', lits_at hl1, hneg, hc, wr1 hi (by omega), lits_len, k1, k2, lits_append, lits_cons, lits_nil]
        · dsimp only; rw [hd]; simp [eachL, seenRs]
      · have e1 : i = c.ls.length := by omega
        subst e1
        refine .stop (.exit 0 [(1, fA s), (2, bC c), (4, b0), (5, bO us vs ws), (13, iL c.lz c.ls c.le), (14, iI c.ls.length), (15, iI c.ls.length)]) (wpQ_way (q78_l0a _ _ (ints (toA s)) s.length c.lz (lits c.ls) c.le c.tz (rws c.ts) c.te c.cz (lits c.cs) c.ce us.isEmpty (lits us) vs.isEmpty (rws vs) ws.isEmpty (lits ws) c.lz (lits c.ls) c.le c.ls.length _ _) (by simp)) rfl ?_
        simp [blkO, eachL, seenRs]) x hx
theorem l_each2 {c : Cl} (hn : c.ts.length ≤ 1000) (hr : ∀ r ∈ c.ts, RowOk r) (us : List LitR) (ws : List LitR) (x : List Row × Nat × List Int) (hx : x.2.1 ≤ c.ts.length ∧ x.1.length = x.2.1 ∧ SeenOk x.2.2) : evP F (Go.Ab.W F) (JW F d78 [1]) d78 [1] [1,1,1,0,1] [(1, fA x.2.2), (2, bC c), (4, b0), (5, bO us x.1 ws), (33, iR c.tz c.ts c.te), (34, iI c.ts.length), (35, iI x.2.1)] = some (.norm [(1, fA (seenTs x.2.2 (c.ts.drop x.2.1))), (2, bC c), (4, b0), (5, bO us (x.1 ++ eachR x.2.2 (c.ts.drop x.2.1)) ws), (33, iR c.tz c.ts c.te), (34, iI c.ts.length), (35, iI c.ts.length)]) :=
  blk_fun (F := F) (d := d78) (lk := [1]) (p := [1,1,1,0,1,0,0]) (p0 := [1,1,1,0,1]) (id := 2) (by kernel_rfl) (st := fun (x : List Row × Nat × List Int) => [(1, fA x.2.2), (2, bC c), (4, b0), (5, bO us x.1 ws), (33, iR c.tz c.ts c.te), (34, iI c.ts.length), (35, iI x.2.1)]) (I := fun x => x.2.1 ≤ c.ts.length ∧ x.1.length = x.2.1 ∧ SeenOk x.2.2) (μ := fun x => c.ts.length - x.2.1)
    (res := fun x => .norm [(1, fA (seenTs x.2.2 (c.ts.drop x.2.1))), (2, bC c), (4, b0), (5, bO us (x.1 ++ eachR x.2.2 (c.ts.drop x.2.1)) ws), (33, iR c.tz c.ts c.te), (34, iI c.ts.length), (35, iI c.ts.length)])
    (fun x hx => by
      obtain ⟨vs, i, s⟩ := x
      obtain ⟨hx1, hx2, hx3⟩ := hx
      dsimp only at hx1 hx2 hx3
      by_cases hi : i < c.ts.length
      · obtain ⟨l, hl1⟩ := at_lt hi
        have hd : c.ts.drop i = l :: c.ts.drop (i + 1) := by
          rw [List.drop_eq_getElem_cons hi]
          rw [List.getElem?_eq_getElem hi] at hl1
          cases hl1; rfl
        have hok := hr l (List.mem_of_getElem? hl1)
        have hc := w_anew2 hok.len l.z hok.nil hok.cod l.e hx3
        have hi' : (i : Int) < c.ts.length := by omega
        refine .go (vs ++ [⟨l.z, stepR s l.l, []⟩], i + 1, seenR s l.l) (wpQ_way (q78_l2a _ _ (ints (toA s)) s.length c.lz (lits c.ls) c.le c.tz (rws c.ts) c.te c.cz (lits c.cs) c.ce us.isEmpty (lits us) vs.isEmpty (rws vs) ws.isEmpty (lits ws) c.tz (rws c.ts) c.te c.ts.length i _) ?_) ⟨by dsimp only; omega, by simp; omega, hx3.row hok.cod⟩ (by dsimp only; omega) ?_
        · have k1 : vs.length + 1 ≤ 9223372036854775807 := by omega
          have k2 : (vs.length + 1) * 24 ≤ 140737488355328 := by omega
          simp [-Bool.exists_bool, -getElem?_pos, -Int.natCast_add, hi', rws_at hl1, hc, wr1 hi (by omega), rws_len, k1, k2, rws_append, rws_cons, rws_nil]
        · dsimp only; rw [hd]; simp [eachR, seenRs]
      · have e1 : i = c.ts.length := by omega
        subst e1
        refine .stop (.exit 2 [(1, fA s), (2, bC c), (4, b0), (5, bO us vs ws), (33, iR c.tz c.ts c.te), (34, iI c.ts.length), (35, iI c.ts.length)]) (wpQ_way (q78_l2a _ _ (ints (toA s)) s.length c.lz (lits c.ls) c.le c.tz (rws c.ts) c.te c.cz (lits c.cs) c.ce us.isEmpty (lits us) vs.isEmpty (rws vs) ws.isEmpty (lits ws) c.tz (rws c.ts) c.te c.ts.length _ _) (by simp)) rfl ?_
        simp [blkO, eachR, seenRs]) x hx
theorem l_each4 {c : Cl} (hn : c.cs.length ≤ 1000) (hr : ∀ l ∈ c.cs, RowOk l.r) (us : List LitR) (vs : List Row) (x : List LitR × Nat × List Int) (hx : x.2.1 ≤ c.cs.length ∧ x.1.length = x.2.1 ∧ SeenOk x.2.2) : evP F (Go.Ab.W F) (JW F d78 [1]) d78 [1] [1,1,1,1,0,1] [(1, fA x.2.2), (4, b0), (5, bO us vs x.1), (49, iL c.cz c.cs c.ce), (50, iI c.cs.length), (51, iI x.2.1)] = some (.norm [(1, fA (seenLs x.2.2 (c.cs.drop x.2.1))), (4, b0), (5, bO us vs (x.1 ++ eachL x.2.2 (c.cs.drop x.2.1))), (49, iL c.cz c.cs c.ce), (50, iI c.cs.length), (51, iI c.cs.length)]) :=
  blk_fun (F := F) (d := d78) (lk := [1]) (p := [1,1,1,1,0,1,0,0]) (p0 := [1,1,1,1,0,1]) (id := 4) (by kernel_rfl) (st := fun (x : List LitR × Nat × List Int) => [(1, fA x.2.2), (4, b0), (5, bO us vs x.1), (49, iL c.cz c.cs c.ce), (50, iI c.cs.length), (51, iI x.2.1)]) (I := fun x => x.2.1 ≤ c.cs.length ∧ x.1.length = x.2.1 ∧ SeenOk x.2.2) (μ := fun x => c.cs.length - x.2.1)
    (res := fun x => .norm [(1, fA (seenLs x.2.2 (c.cs.drop x.2.1))), (4, b0), (5, bO us vs (x.1 ++ eachL x.2.2 (c.cs.drop x.2.1))), (49, iL c.cz c.cs c.ce), (50, iI c.cs.length), (51, iI c.cs.length)])
    (fun x hx => by
      obtain ⟨ws, i, s⟩ := x
      obtain ⟨hx1, hx2, hx3⟩ := hx
      dsimp only at hx1 hx2 hx3
      by_cases hi : i < c.cs.length
      · obtain ⟨l, hl1⟩ := at_lt hi
        have hd : c.cs.drop i = l :: c.cs.drop (i + 1) := by
          rw [List.drop_eq_getElem_cons hi]
          rw [List.getElem?_eq_getElem hi] at hl1
          cases hl1; rfl
        have hok := hr l (List.mem_of_getElem? hl1)
        have hc := w_anew2 hok.len l.r.z hok.nil hok.cod l.r.e hx3
        have hi' : (i : Int) < c.cs.length := by omega
        refine .go (ws ++ [⟨l.neg, ⟨l.r.z, stepR s l.r.l, []⟩⟩], i + 1, seenR s l.r.l) (wpQ_way (q78_l4a _ _ (ints (toA s)) s.length us.isEmpty (lits us) vs.isEmpty (rws vs) ws.isEmpty (lits ws) c.cz (lits c.cs) c.ce c.cs.length i _) ?_) ⟨by dsimp only; omega, by simp; omega, hx3.row hok.cod⟩ (by dsimp only; omega) ?_
        · have k1 : ws.length + 1 ≤ 9223372036854775807 := by omega
          have k2 : (ws.length + 1) * 32 ≤ 140737488355328 := by omega
          cases hneg : l.neg <;> simp [-Bool.exists_bool, -getElem?_pos, -Int.natCast_add, hi', lits_at hl1, hneg, hc, wr1 hi (by omega), lits_len, k1, k2, lits_append, lits_cons, lits_nil]
        · dsimp only; rw [hd]; simp [eachL, seenRs]
      · have e1 : i = c.cs.length := by omega
        subst e1
        refine .stop (.exit 4 [(1, fA s), (4, b0), (5, bO us vs ws), (49, iL c.cz c.cs c.ce), (50, iI c.cs.length), (51, iI c.cs.length)]) (wpQ_way (q78_l4a _ _ (ints (toA s)) s.length us.isEmpty (lits us) vs.isEmpty (rws vs) ws.isEmpty (lits ws) c.cz (lits c.cs) c.ce c.cs.length _ _) (by simp)) rfl ?_
        simp [blkO, eachL, seenRs]) x hx
structure ClRow (c : Cl) : Prop where
  l5 : c.ls.length ≤ 1000
  t3 : c.ts.length ≤ 1000
  c3 : c.cs.length ≤ 1000
  ls : ∀ l ∈ c.ls, RowOk l.r
  ts : ∀ r ∈ c.ts, RowOk r
  cs : ∀ l ∈ c.cs, RowOk l.r
theorem w_each {c : Cl} (h : ClRow c) {s : List Int} (hs : SeenOk s) : C 78 [iC c, fA s] = some (.agg [.own (eachL s c.ls).isEmpty 57 2 (lits (eachL s c.ls)), .own (eachR (seenLs s c.ls) c.ts).isEmpty 33 1 (rws (eachR (seenLs s c.ls) c.ts)), .own (eachL (seenTs (seenLs s c.ls) c.ts) c.cs).isEmpty 57 2 (lits (eachL (seenTs (seenLs s c.ls) c.ts) c.cs))], [iC c, fA (seenLs (seenTs (seenLs s c.ls) c.ts) c.cs)]) := by
  refine wfn (lk := [1]) rfl rfl (fnW_way (q78 _ _ c.lz (lits c.ls) c.le c.tz (rws c.ts) c.te c.cz (lits c.cs) c.ce (ints (toA s)) s.length _) ?_)
  have hs1 : SeenOk (seenLs s c.ls) := hs.rows (fun r hr => by
    obtain ⟨l, hl, rfl⟩ := List.mem_map.1 hr
    exact (h.ls l hl).cod)
  have hs2 : SeenOk (seenTs (seenLs s c.ls) c.ts) := hs1.rows (fun r hr => by
    obtain ⟨l, hl, rfl⟩ := List.mem_map.1 hr
    exact (h.ts l hl).cod)
  have h1 := l_each0 h.l5 h.ls [] [] ([], 0, s) ⟨Nat.zero_le _, rfl, hs⟩
  have h2 := l_each2 h.t3 h.ts (eachL s c.ls) [] ([], 0, seenLs s c.ls) ⟨Nat.zero_le _, rfl, hs1⟩
  have h3 := l_each4 h.c3 h.cs (eachL s c.ls) (eachR (seenLs s c.ls) c.ts) ([], 0, seenTs (seenLs s c.ls) c.ts) ⟨Nat.zero_le _, rfl, hs2⟩
  simp only [List.drop_zero, List.nil_append] at h1 h2 h3
  rw [lits_len]
  refine ⟨_, _, _, _, _, _, _, _, _, _, _, _, _, _, _, _, _, _, _, _, _, _, h1, ?_⟩
  rw [rws_len]
  refine ⟨_, _, _, _, _, _, _, _, _, _, _, _, _, _, _, _, _, _, _, _, _, _, h2, ?_⟩
  rw [lits_len]
  exact ⟨_, _, _, _, _, _, _, _, _, _, _, _, _, h3, rfl⟩
end Go.Proofs.YtjhganbjbiihoaaDoor.Ab

/- Normal clauses, clauses that are the same: what the program's functions hand back. For every input; no condition. -/
set_option linter.unusedVariables false
set_option linter.unusedSimpArgs false
set_option maxRecDepth 100000
namespace Go.Proofs.YtjhganbjbiihoaaDoor.Ab
open Go Go.Ab Go.Qu Go.Proofs
attribute [local simp] and_assoc
theorem seenR_self {s r : List Int} : ∀ c ∈ r, c < 0 → c ∈ seenR s r := fun c hc h0 => mem_seenR.2 (.inr ⟨hc, h0⟩)
theorem eachL_c : ∀ (ls : List LitR) (s t : List Int), (eachL s ls).map LitR.c = ls.map fun l => (l.neg, renR (seenLs s ls ++ t) l.r.l)
  | [], s, t => rfl
  | l :: ls, s, t => by
    have e1 : seenLs s (l :: ls) = seenLs (seenR s l.r.l) ls := rfl
    obtain ⟨u, hu⟩ := pre_seenRs (ls.map fun l => l.r.l) (seenR s l.r.l)
    rw [eachL, List.map_cons, List.map_cons, e1, eachL_c ls (seenR s l.r.l) t]
    congr 1
    show (l.neg, stepR s l.r.l) = _
    rw [stepR_ren, show seenLs (seenR s l.r.l) ls = seenR s l.r.l ++ u from hu, List.append_assoc, renR_pre (u ++ t) seenR_self]
theorem eachR_c : ∀ (ts : List Row) (s t : List Int), (eachR s ts).map (·.l) = ts.map fun r => renR (seenTs s ts ++ t) r.l
  | [], s, t => rfl
  | r :: ts, s, t => by
    have e1 : seenTs s (r :: ts) = seenTs (seenR s r.l) ts := rfl
    obtain ⟨u, hu⟩ := pre_seenRs (ts.map fun r => r.l) (seenR s r.l)
    rw [eachR, List.map_cons, List.map_cons, e1, eachR_c ts (seenR s r.l) t]
    congr 1
    show stepR s r.l = _
    rw [stepR_ren, show seenTs (seenR s r.l) ts = seenR s r.l ++ u from hu, List.append_assoc, renR_pre (u ++ t) seenR_self]
/-- A clause each part of which stands once. -/
def onceC' (c : Cl) : Cl := ⟨(onceK LitR.c [] c.ls).isEmpty, onceK LitR.c [] c.ls, [], (onceK (fun r : Row => r.l) [] c.ts).isEmpty, onceK (fun r : Row => r.l) [] c.ts, [], (onceK LitR.c [] c.cs).isEmpty, onceK LitR.c [] c.cs, []⟩
def renumC (c : Cl) : Cl := ⟨(eachL [] c.ls).isEmpty, eachL [] c.ls, [], (eachR (seenLs [] c.ls) c.ts).isEmpty, eachR (seenLs [] c.ls) c.ts, [], (eachL (seenTs (seenLs [] c.ls) c.ts) c.cs).isEmpty, eachL (seenTs (seenLs [] c.ls) c.ts) c.cs, []⟩
def anewC (c : Cl) : Cl := renumC (onceC' c)
theorem seen_app (s : List Int) (a b : List (List Int)) : seenRs s (a ++ b) = seenRs (seenRs s a) b := List.foldl_append
theorem renum_c (c : Cl) : (renumC c).c = renCC (seenRs [] c.c.rows) c.c := by
  have e1 : seenRs [] c.c.rows = seenLs (seenTs (seenLs [] c.ls) c.ts) c.cs := by
    simp only [CC.rows, Cl.c, List.map_map, seen_app]; rfl
  obtain ⟨u, hu⟩ := pre_seenRs (c.cs.map fun l => l.r.l) (seenTs (seenLs [] c.ls) c.ts)
  obtain ⟨v, hv⟩ := pre_seenRs (c.ts.map fun r => r.l) (seenLs [] c.ls)
  have e2 : seenRs [] c.c.rows = seenTs (seenLs [] c.ls) c.ts ++ u := e1.trans hu
  have e3 : seenRs [] c.c.rows = seenLs [] c.ls ++ (v ++ u) := by rw [e2, ← List.append_assoc]; exact congrArg (· ++ u) hv
  have h1 := eachL_c c.ls [] (v ++ u)
  have h2 := eachR_c c.ts (seenLs [] c.ls) u
  have h3 := eachL_c c.cs (seenTs (seenLs [] c.ls) c.ts) []
  rw [← e3] at h1
  rw [← e2] at h2
  rw [List.append_nil, ← e1] at h3
  generalize seenRs [] c.c.rows = S at *
  unfold renumC Cl.c renCC
  dsimp only
  rw [h1, h2, h3]
  simp [List.map_map, Function.comp_def, renL, LitR.c]
theorem once_c (c : Cl) : (onceC' c).c = onceC c.c := by
  unfold onceC' Cl.c onceC
  dsimp only
  rw [once_map, once_map, once_map]; rfl
theorem anew_c (c : Cl) : (anewC c).c = normC c.c := by
  rw [anewC, renum_c, once_c]; rfl
theorem clRow_once {c : Cl} (h : ClRow c) : ClRow (onceC' c) :=
  ⟨Nat.le_trans (once_len LitR.c c.ls []) (by simpa using h.l5), Nat.le_trans (once_len (fun r : Row => r.l) c.ts []) (by simpa using h.t3), Nat.le_trans (once_len LitR.c c.cs []) (by simpa using h.c3),
   fun l hl => h.ls l (by simpa using once_sub LitR.c c.ls [] l hl), fun r hr => h.ts r (by simpa using once_sub (fun r : Row => r.l) c.ts [] r hr), fun l hl => h.cs l (by simpa using once_sub LitR.c c.cs [] l hl)⟩
abbrev oC (c : Cl) : IV := .agg [.own c.lz 57 2 (lits c.ls), .own c.tz 33 1 (rws c.ts), .own c.cz 57 2 (lits c.cs)]
theorem w_anew {c : Cl} (h : ClRow c) : C 44 [iC c] = some (oC (anewC c), [iC c]) := by
  refine wfn (lk := []) rfl rfl (fnW_way (q44 _ _ c.lz (lits c.ls) c.le c.tz (rws c.ts) c.te c.cz (lits c.cs) c.ce _) ?_)
  have h1 := w_clonce h.l5 (fun l hl => (h.ls l hl).len) c.lz c.le
  have h2 := w_clonce h.c3 (fun l hl => (h.cs l hl).len) c.cz c.ce
  have h3 := fun x hx => blk_fun (F := F) (d := d44) (lk := []) (p := [1,1,0,1,0,0]) (p0 := [1,1,0,1]) (id := 0) (by kernel_rfl) (st := fun (x : List Row × Nat) => [(2, b0), (3, bO (onceK LitR.c [] c.ls) x.1 (onceK LitR.c [] c.cs)), (16, iR c.tz c.ts c.te), (17, iI c.ts.length), (18, iI x.2)]) (I := fun x => x.2 ≤ c.ts.length ∧ x.1.length ≤ x.2) (μ := fun x => c.ts.length - x.2)
    (res := fun x => .norm [(2, b0), (3, bO (onceK LitR.c [] c.ls) (onceK (fun r : Row => r.l) x.1 (c.ts.drop x.2)) (onceK LitR.c [] c.cs)), (16, iR c.tz c.ts c.te), (17, iI c.ts.length), (18, iI c.ts.length)])
    (fun x hx => by
      obtain ⟨us, i⟩ := x
      obtain ⟨hx1, hx2⟩ := hx
      dsimp only at hx1 hx2
      have hb := h.t3
      by_cases hi : i < c.ts.length
      · obtain ⟨l, hl1⟩ := at_lt hi
        have hd : c.ts.drop i = l :: c.ts.drop (i + 1) := by
          rw [List.drop_eq_getElem_cons hi]
          rw [List.getElem?_eq_getElem hi] at hl1
          cases hl1; rfl
        have hc := w_hasrow (h.ts l (List.mem_of_getElem? hl1)).len (ts := us) (by omega) us.isEmpty []
        have hi' : (i : Int) < c.ts.length := by omega
        by_cases hm : l.l ∈ us.map (fun r : Row => r.l)
        · rw [decide_eq_true hm] at hc
          refine .go (us, i + 1) (wpQ_way (q44_l0a _ _ _ (lits (onceK LitR.c [] c.ls)) us.isEmpty (rws us) _ (lits (onceK LitR.c [] c.cs)) c.tz (rws c.ts) c.te _ i _) ?_) ⟨by dsimp only; omega, by dsimp only; omega⟩ (by dsimp only; omega) ?_
          · simp [-Bool.exists_bool, -getElem?_pos, -Int.natCast_add, hi', rws_at hl1, hc, wr1 hi (by omega)]
          · dsimp only; rw [hd, onceK, if_pos hm]
        · rw [decide_eq_false hm] at hc
          refine .go (us ++ [l], i + 1) (wpQ_way (q44_l0a _ _ _ (lits (onceK LitR.c [] c.ls)) us.isEmpty (rws us) _ (lits (onceK LitR.c [] c.cs)) c.tz (rws c.ts) c.te _ i _) ?_) ⟨by dsimp only; omega, by simp; omega⟩ (by dsimp only; omega) ?_
          · have k1 : us.length + 1 ≤ 9223372036854775807 := by omega
            have k2 : (us.length + 1) * 24 ≤ 140737488355328 := by omega
            simp [-Bool.exists_bool, -getElem?_pos, -Int.natCast_add, hi', rws_at hl1, hc, wr1 hi (by omega), rws_len, k1, k2, rws_append, rws_cons, rws_nil]
          · dsimp only; rw [hd, onceK, if_neg hm]
      · have e1 : i = c.ts.length := by omega
        subst e1
        refine .stop (.exit 0 [(2, b0), (3, bO (onceK LitR.c [] c.ls) us (onceK LitR.c [] c.cs)), (16, iR c.tz c.ts c.te), (17, iI c.ts.length), (18, iI c.ts.length)]) (wpQ_way (q44_l0a _ _ _ (lits (onceK LitR.c [] c.ls)) us.isEmpty (rws us) _ (lits (onceK LitR.c [] c.cs)) c.tz (rws c.ts) c.te _ _ _) (by simp)) rfl ?_
        simp [blkO, onceK]) x hx
  have h4 : evP F (Go.Ab.W F) (JW F d44 []) d44 [] [1,1,0,1] [(2, b0), (3, bO (onceK LitR.c [] c.ls) [] (onceK LitR.c [] c.cs)), (16, iR c.tz c.ts c.te), (17, iI c.ts.length), (18, iI 0)] = _ := h3 ([], 0) ⟨Nat.zero_le _, Nat.le_refl _⟩
  rw [List.drop_zero] at h4
  have h5 := w_each (c := onceC' c) (clRow_once h) (s := []) ⟨List.nodup_nil, by simp⟩
  refine ⟨_, _, _, h1, _, _, _, h2, ?_⟩
  rw [rws_len]
  refine ⟨_, _, _, _, _, _, _, _, _, _, _, h4, ?_⟩
  exact ⟨_, _, _, _, _, _, _, _, _, h5, rfl⟩
/-! ### The same -/
theorem map_eq_at {α β : Type} (f : α → β) {a b : List α} (hl : a.length = b.length) (h : ∀ (i : Nat) (x y : α), a[i]? = some x → b[i]? = some y → f x = f y) : a.map f = b.map f := by
  refine List.ext_getElem (by simpa using hl) (fun i h1 h2 => ?_)
  simp at h1 h2
  simp only [List.getElem_map]
  exact h i _ _ (by simp [h1]) (by simp [h2])
theorem w_eqlits {a : List LitR} (hn : a.length ≤ 1000) (ha : ∀ l ∈ a, Len l.r.l) (b : List LitR) (z z' : Bool) (e e' : List D) : C 72 [iL z a e, iL z' b e', .d (.fn 73)] = some (iB (decide (a.map LitR.c = b.map LitR.c)), [iL z a e, iL z' b e', .d (.fn 73)]) := by
  refine wfn (lk := []) rfl rfl (fnW_way (q72 _ _ z (lits a) e z' (lits b) e' _) ?_)
  by_cases hl : a.length = b.length
  rotate_left
  · have h1 : ¬ a.map LitR.c = b.map LitR.c := fun h => hl (by simpa using congrArg List.length h)
    have h2 : ¬ (a.length : Int) = b.length := by omega
    rw [decide_eq_false h1]
    simp [-Bool.exists_bool, lits_len, h2]
  have h2 := blk_all (F := F) (d := d72) (lk := []) (p := [1,1,0,1,0,0]) (p0 := [1,1,0,1]) (by kernel_rfl) (n := a.length) (id := 0) (st := fun i => [(1, iL z' b e'), (2, .d (.fn 73)), (15, iL z a e), (16, iI a.length), (17, iI i)]) (q := fun i => match a[i]?, b[i]? with | some x, some y => decide (x.c = y.c) | _, _ => true) (rt := [(2, .d (.fn 73)), (6, iB false)]) (e := [(1, iL z' b e'), (2, .d (.fn 73)), (15, iL z a e), (16, iI a.length), (17, iI a.length)])
    (fun i hi hq => by
      obtain ⟨x, hx⟩ := at_lt hi
      obtain ⟨y, hy⟩ := at_lt (l := b) (i := i) (by omega)
      rw [hx, hy] at hq
      have hc := w_litsame (b := x.neg) (b' := y.neg) (z := x.r.z) (z' := y.r.z) (a' := y.r.l) (e := x.r.e) (e' := y.r.e) (ha x (List.mem_of_getElem? hx))
      have hq' : decide ((x.neg, x.r.l) = (y.neg, y.r.l)) = true := hq
      rw [hq'] at hc
      have hi' : (i : Int) < a.length := by omega
      refine wpQ_way (q72_l0a _ _ z' (lits b) e' z (lits a) e _ i _) ?_
      simp [-Bool.exists_bool, -getElem?_pos, -Int.natCast_add, hi', lits_at hx, lits_at hy, hc, wr1 hi (by omega)])
    (fun i hi hq => by
      obtain ⟨x, hx⟩ := at_lt hi
      obtain ⟨y, hy⟩ := at_lt (l := b) (i := i) (by omega)
      rw [hx, hy] at hq
      have hc := w_litsame (b := x.neg) (b' := y.neg) (z := x.r.z) (z' := y.r.z) (a' := y.r.l) (e := x.r.e) (e' := y.r.e) (ha x (List.mem_of_getElem? hx))
      have hq' : decide ((x.neg, x.r.l) = (y.neg, y.r.l)) = false := hq
      rw [hq'] at hc
      have hi' : (i : Int) < a.length := by omega
      refine wpQ_way (q72_l0a _ _ z' (lits b) e' z (lits a) e _ i _) ?_
      simp [-Bool.exists_bool, -getElem?_pos, -Int.natCast_add, hi', lits_at hx, lits_at hy, hc, wr1 hi (by omega)])
    (wpQ_way (q72_l0a _ _ z' (lits b) e' z (lits a) e _ a.length _) (by simp)) 0 (Nat.zero_le _)
  have hb : ¬ ((a.length : Int) != b.length) = true := by simp; omega
  rw [lits_len, lits_len]
  refine condW_f (by simpa using hb) ?_
  rcases h2 with ⟨h3, h4⟩ | ⟨⟨j, _, hj, hq⟩, h4⟩
  · have : a.map LitR.c = b.map LitR.c := map_eq_at LitR.c hl (fun i x y hx hy => by
      have := h3 i (Nat.zero_le _) (lt_at hx)
      rw [hx, hy] at this
      simpa using this)
    rw [decide_eq_true this]
    exact .inr ⟨_, _, _, _, _, _, _, _, h4, rfl⟩
  · have : ¬ a.map LitR.c = b.map LitR.c := fun h => by
      obtain ⟨x, hx⟩ := at_lt hj
      obtain ⟨y, hy⟩ := at_lt (l := b) (i := j) (by omega)
      rw [hx, hy] at hq
      have h5 : (a.map LitR.c)[j]? = (b.map LitR.c)[j]? := by rw [h]
      simp [hx, hy] at h5
      simp [h5] at hq
    rw [decide_eq_false this]
    exact .inl ⟨_, h4, rfl⟩
theorem w_eqrows {a : List Row} (hn : a.length ≤ 1000) (ha : ∀ r ∈ a, Len r.l) (b : List Row) (z z' : Bool) (e e' : List D) : C 74 [iR z a e, iR z' b e', .d (.fn 41)] = some (iB (decide (a.map (fun r : Row => r.l) = b.map (fun r : Row => r.l))), [iR z a e, iR z' b e', .d (.fn 41)]) := by
  refine wfn (lk := []) rfl rfl (fnW_way (q74 _ _ z (rws a) e z' (rws b) e' _) ?_)
  by_cases hl : a.length = b.length
  rotate_left
  · have h1 : ¬ a.map (fun r : Row => r.l) = b.map (fun r : Row => r.l) := fun h => hl (by simpa using congrArg List.length h)
    have h2 : ¬ (a.length : Int) = b.length := by omega
    rw [decide_eq_false h1]
    simp [-Bool.exists_bool, rws_len, h2]
  have h2 := blk_all (F := F) (d := d74) (lk := []) (p := [1,1,0,1,0,0]) (p0 := [1,1,0,1]) (by kernel_rfl) (n := a.length) (id := 0) (st := fun i => [(1, iR z' b e'), (2, .d (.fn 41)), (15, iR z a e), (16, iI a.length), (17, iI i)]) (q := fun i => match a[i]?, b[i]? with | some x, some y => decide (x.l = y.l) | _, _ => true) (rt := [(2, .d (.fn 41)), (6, iB false)]) (e := [(1, iR z' b e'), (2, .d (.fn 41)), (15, iR z a e), (16, iI a.length), (17, iI a.length)])
    (fun i hi hq => by
      obtain ⟨x, hx⟩ := at_lt hi
      obtain ⟨y, hy⟩ := at_lt (l := b) (i := i) (by omega)
      rw [hx, hy] at hq
      have hc := w_equal (ha x (List.mem_of_getElem? hx)) y.l x.z y.z x.e y.e
      dsimp only at hq
      rw [hq] at hc
      have hi' : (i : Int) < a.length := by omega
      refine wpQ_way (q74_l0a _ _ z' (rws b) e' z (rws a) e _ i _) ?_
      simp [-Bool.exists_bool, -getElem?_pos, -Int.natCast_add, hi', rws_at hx, rws_at hy, hc, wr1 hi (by omega)])
    (fun i hi hq => by
      obtain ⟨x, hx⟩ := at_lt hi
      obtain ⟨y, hy⟩ := at_lt (l := b) (i := i) (by omega)
      rw [hx, hy] at hq
      have hc := w_equal (ha x (List.mem_of_getElem? hx)) y.l x.z y.z x.e y.e
      dsimp only at hq
      rw [hq] at hc
      have hi' : (i : Int) < a.length := by omega
      refine wpQ_way (q74_l0a _ _ z' (rws b) e' z (rws a) e _ i _) ?_
      simp [-Bool.exists_bool, -getElem?_pos, -Int.natCast_add, hi', rws_at hx, rws_at hy, hc, wr1 hi (by omega)])
    (wpQ_way (q74_l0a _ _ z' (rws b) e' z (rws a) e _ a.length _) (by simp)) 0 (Nat.zero_le _)
  have hb : ¬ ((a.length : Int) != b.length) = true := by simp; omega
  rw [rws_len, rws_len]
  refine condW_f (by simpa using hb) ?_
  rcases h2 with ⟨h3, h4⟩ | ⟨⟨j, _, hj, hq⟩, h4⟩
  · have : a.map (fun r : Row => r.l) = b.map (fun r : Row => r.l) := map_eq_at (fun r : Row => r.l) hl (fun i x y hx hy => by
      have := h3 i (Nat.zero_le _) (lt_at hx)
      rw [hx, hy] at this
      simpa using this)
    rw [decide_eq_true this]
    exact .inr ⟨_, _, _, _, _, _, _, _, h4, rfl⟩
  · have : ¬ a.map (fun r : Row => r.l) = b.map (fun r : Row => r.l) := fun h => by
      obtain ⟨x, hx⟩ := at_lt hj
      obtain ⟨y, hy⟩ := at_lt (l := b) (i := j) (by omega)
      rw [hx, hy] at hq
      have h5 : (a.map (fun r : Row => r.l))[j]? = (b.map (fun r : Row => r.l))[j]? := by rw [h]
      simp [hx, hy] at h5
      simp [h5] at hq
    rw [decide_eq_false this]
    exact .inl ⟨_, h4, rfl⟩
structure ClLen (c : Cl) : Prop where
  l5 : c.ls.length ≤ 1000
  t3 : c.ts.length ≤ 1000
  c3 : c.cs.length ≤ 1000
  ls : ∀ l ∈ c.ls, Len l.r.l
  ts : ∀ r ∈ c.ts, Len r.l
  cs : ∀ l ∈ c.cs, Len l.r.l
theorem cl_ext {c d : Cl} : c.c = d.c ↔ c.ls.map LitR.c = d.ls.map LitR.c ∧ c.ts.map (fun r : Row => r.l) = d.ts.map (fun r : Row => r.l) ∧ c.cs.map LitR.c = d.cs.map LitR.c := by
  simp [Cl.c]
theorem w_clsame {c : Cl} (h : ClLen c) (d : Cl) : C 43 [iC c, iC d] = some (iB (decide (c.c = d.c)), [iC c, iC d]) := by
  refine wfn (lk := []) rfl rfl (fnW_way (q43 _ _ c.lz (lits c.ls) c.le c.tz (rws c.ts) c.te c.cz (lits c.cs) c.ce d.lz (lits d.ls) d.le d.tz (rws d.ts) d.te d.cz (lits d.cs) d.ce _) ?_)
  have h1 := w_eqlits h.l5 h.ls d.ls c.lz d.lz c.le d.le
  have h2 := w_eqrows h.t3 h.ts d.ts c.tz d.tz c.te d.te
  have h3 := w_eqlits h.c3 h.cs d.cs c.cz d.cz c.ce d.ce
  have h0 : decide (c.c = d.c) = (decide (c.ls.map LitR.c = d.ls.map LitR.c) && (decide (c.ts.map (fun r : Row => r.l) = d.ts.map (fun r : Row => r.l)) && decide (c.cs.map LitR.c = d.cs.map LitR.c))) := by
    rw [Bool.eq_iff_iff]; simp [cl_ext]
  rw [h0]
  cases k1 : decide (c.ls.map LitR.c = d.ls.map LitR.c) <;> cases k2 : decide (c.ts.map (fun r : Row => r.l) = d.ts.map (fun r : Row => r.l)) <;> cases k3 : decide (c.cs.map LitR.c = d.cs.map LitR.c) <;> rw [k1] at h1 <;> rw [k2] at h2 <;> rw [k3] at h3 <;> simp [-Bool.exists_bool, h1, h2, h3]
/-! ### Of clauses that may be -/
def NilC (c : Cl) : Prop := ∀ r ∈ rowsOf c, r.z = true → r.l = []
theorem clRow_of {g : List Sym} {c : Cl} (h : clB g c = true) (hn : NilC c) : ClRow c := by
  have hk := clOk.1 ((clB_c g c).symm.trans h)
  have hc := cl_codes hk
  have hl : ∀ l ∈ c.ls, atomB g l.r.l = true := fun l hl => hk.la l.c (by simp [Cl.c]; exact ⟨l, hl, rfl⟩)
  have hcs : ∀ l ∈ c.cs, atomB g l.r.l = true := fun l hl => hk.ca l.c (by simp [Cl.c]; exact ⟨l, hl, rfl⟩)
  have ht : ∀ r ∈ c.ts, rowB g r.l = true := fun r hr => by
    obtain ⟨k, hk⟩ := hk.tr
    exact (hk r.l (by simp [Cl.c]; exact ⟨r, hr, rfl⟩)).1
  have e1 : c.c.ls.length = c.ls.length := by simp [Cl.c]
  have e2 : c.c.ts.length = c.ts.length := by simp [Cl.c]
  have e3 : c.c.cs.length = c.cs.length := by simp [Cl.c]
  have h1 := hk.l5; have h2 := hk.t3; have h3 := hk.c3
  refine ⟨by omega, by omega, by omega, fun l hl' => ?_, fun r hr => ?_, fun l hl' => ?_⟩
  · have := atom_codes (hl l hl')
    exact ⟨by have := this.1; unfold Len; omega, hn _ (by simp [rowsOf]; exact .inl ⟨l, hl', rfl⟩), fun c hc => (this.2.1 c hc).1⟩
  · exact ⟨row_len (ht r hr), hn _ (by simp [rowsOf, hr]), fun c hc => (row_codes (ht r hr) c hc).1⟩
  · have := atom_codes (hcs l hl')
    exact ⟨by have := this.1; unfold Len; omega, hn _ (by simp [rowsOf]; exact .inr (.inr ⟨l, hl', rfl⟩)), fun c hc => (this.2.1 c hc).1⟩
theorem stepR_len : ∀ (r s : List Int), (stepR s r).length = r.length
  | [], s => rfl
  | c :: r, s => by simp [stepR, stepR_len r]
theorem eachL_sub : ∀ (ls : List LitR) (s : List Int) (x : LitR), x ∈ eachL s ls → ∃ l ∈ ls, x.r.l.length = l.r.l.length ∧ x.r.z = l.r.z
  | [], s, x, h => by simp [eachL] at h
  | l :: ls, s, x, h => by
    rw [eachL] at h
    rcases List.mem_cons.1 h with rfl | h
    · exact ⟨l, by simp, stepR_len _ _, rfl⟩
    · obtain ⟨m, hm, h1⟩ := eachL_sub ls _ x h
      exact ⟨m, by simp [hm], h1⟩
theorem eachR_sub : ∀ (ts : List Row) (s : List Int) (x : Row), x ∈ eachR s ts → ∃ l ∈ ts, x.l.length = l.l.length ∧ x.z = l.z
  | [], s, x, h => by simp [eachR] at h
  | l :: ls, s, x, h => by
    rw [eachR] at h
    rcases List.mem_cons.1 h with rfl | h
    · exact ⟨l, by simp, stepR_len _ _, rfl⟩
    · obtain ⟨m, hm, h1⟩ := eachR_sub ls _ x h
      exact ⟨m, by simp [hm], h1⟩
theorem eachL_len : ∀ (ls : List LitR) (s : List Int), (eachL s ls).length = ls.length
  | [], s => rfl
  | l :: ls, s => by simp [eachL, eachL_len ls]
theorem eachR_len : ∀ (ls : List Row) (s : List Int), (eachR s ls).length = ls.length
  | [], s => rfl
  | l :: ls, s => by simp [eachR, eachR_len ls]
theorem renum_len {c : Cl} (h : ClRow c) : ClLen (renumC c) :=
  ⟨by simpa [renumC, eachL_len] using h.l5, by simpa [renumC, eachR_len] using h.t3, by simpa [renumC, eachL_len] using h.c3,
   fun l hl => by obtain ⟨m, hm, h1, _⟩ := eachL_sub _ _ l hl; have := (h.ls m hm).len; unfold Len at *; omega,
   fun l hl => by obtain ⟨m, hm, h1, _⟩ := eachR_sub _ _ l hl; have := (h.ts m hm).len; unfold Len at *; omega,
   fun l hl => by obtain ⟨m, hm, h1, _⟩ := eachL_sub _ _ l hl; have := (h.cs m hm).len; unfold Len at *; omega⟩
theorem w_normal (z : Bool) (g : List Sym) (e : List D) {c : Cl} (hn : NilC c) : C 24 [iG z g e, iC c] = some (if clB g c = true then .tup [oC (anewC c), iI 0] else .tup [.d (.agg [.sl 2 true [] [], .sl 1 true [] [], .sl 2 true [] []]), iI 800], [iG z g e, iC c]) := by
  refine wfn (lk := []) rfl rfl (fnW_way (q24 _ _ z (syms g) e c.lz (lits c.ls) c.le c.tz (rws c.ts) c.te c.cz (lits c.cs) c.ce _) ?_)
  have h1 := w_clmay z g e c
  refine ⟨_, _, _, h1, ?_⟩
  cases h : clB g c
  · rfl
  · have h2 := w_anew (clRow_of h hn)
    rw [condW_tt]
    exact ⟨_, _, _, _, _, _, _, h2, rfl⟩
theorem w_variant (z : Bool) (g : List Sym) (e : List D) {c d : Cl} (hn : NilC c) (hm : NilC d) : C 16 [iG z g e, iC c, iC d] = some (.tup [iB ((clB g c && clB g d) && decide (normC c.c = normC d.c)), iI (if (clB g c && clB g d) = true then 0 else 800)], [iG z g e, iC c, iC d]) := by
  refine wfn (lk := []) rfl rfl (fnW_way (q16 _ _ z (syms g) e c.lz (lits c.ls) c.le c.tz (rws c.ts) c.te c.cz (lits c.cs) c.ce d.lz (lits d.ls) d.le d.tz (rws d.ts) d.te d.cz (lits d.cs) d.ce _) ?_)
  refine ⟨_, _, _, w_clmay z g e c, ?_⟩
  cases h : clB g c
  · rfl
  rw [condW_tt]
  refine ⟨_, _, _, w_clmay z g e d, ?_⟩
  cases h' : clB g d
  · rfl
  rw [condW_tt]
  have hs := w_clsame (renum_len (clRow_once (clRow_of h hn))) (anewC d)
  rw [show renumC (onceC' c) = anewC c from rfl, anew_c, anew_c] at hs
  refine ⟨_, _, _, _, _, _, _, w_anew (clRow_of h hn), _, _, _, _, _, _, _, w_anew (clRow_of h' hm), _, _, _, hs, ?_⟩
  cases k : decide (normC c.c = normC d.c) <;> rfl
end Go.Proofs.YtjhganbjbiihoaaDoor.Ab

/- The variables of rows, added to those of others, as the program's functions tell them. For every input; no condition. -/
set_option linter.unusedVariables false
set_option linter.unusedSimpArgs false
set_option maxRecDepth 100000
namespace Go.Proofs.YtjhganbjbiihoaaDoor.Ab
open Go Go.Ab Go.Qu Go.Proofs
attribute [local simp] and_assoc
theorem w_seen2 {us r : List Int} (hu : Up us) (hl : us.length ≤ 100000) (hr : r.length ≤ 100000) (hc : ∀ c ∈ r, -1000000 ≤ c) (z : Bool) (e : List D) : C 36 [.own us.isEmpty 3 1 (ints us), iS z r e] = some (.own (seenF us r).isEmpty 3 1 (ints (seenF us r)), [.dead, iS z r e]) := by
  refine wfn (lk := []) rfl rfl (fnW_way (q36 _ _ us.isEmpty (ints us) z (ints r) e _) ?_)
  have h1 := fun x hx => blk_fun (F := F) (d := d36) (lk := []) (p := [1,0,1,0,0]) (p0 := [1,0,1]) (id := 0) (by kernel_rfl) (st := fun (x : List Int × Nat) => [(0, .own x.1.isEmpty 3 1 (ints x.1)), (9, iS z r e), (10, iI r.length), (11, iI x.2)]) (I := fun x => x.2 ≤ r.length ∧ Up x.1 ∧ x.1.length ≤ us.length + x.2) (μ := fun x => r.length - x.2)
    (res := fun x => .norm [(0, .own (seenF x.1 (r.drop x.2)).isEmpty 3 1 (ints (seenF x.1 (r.drop x.2)))), (9, iS z r e), (10, iI r.length), (11, iI r.length)])
    (fun x hx => by
      obtain ⟨vs, i⟩ := x
      obtain ⟨hx1, hx2, hx3⟩ := hx
      dsimp only at hx1 hx2 hx3
      by_cases hi : i < r.length
      · have hci := hc _ (gi_mem hi)
        have hi' : (i : Int) < r.length := by omega
        by_cases h0 : 0 ≤ gi r i
        · have h0n : ¬ gi r i < 0 := by omega
          refine .go (vs, i + 1) (wpQ_way (q36_l0a _ _ _ (ints vs) z (ints r) e _ i _) ?_) ⟨by dsimp only; omega, hx2, by dsimp only; omega⟩ (by dsimp only; omega) ?_
          · simp [-Bool.exists_bool, -getElem?_pos, -Int.natCast_add, hi', Go.Ab.ints_at hi, h0, h0n, wr1 hi (by omega)]
          · dsimp only
            rw [gi_drop hi, seenF, if_neg (by omega)]
        · have hw : IntKind.wrap .i64 (-1 - gi r i) = -1 - gi r i := wr _ (by omega) (by omega)
          have hn := w_number (gi r i)
          rw [hw] at hn
          have hb := w_binsearch hx2 (by omega) vs.isEmpty [] (-1 - gi r i)
          by_cases hm : (-1 - gi r i) ∈ vs
          · refine .go (vs, i + 1) (wpQ_way (q36_l0a _ _ _ (ints vs) z (ints r) e _ i _) ?_) ⟨by dsimp only; omega, hx2, by dsimp only; omega⟩ (by dsimp only; omega) ?_
            · simp [-Bool.exists_bool, -getElem?_pos, -Int.natCast_add, hi', Go.Ab.ints_at hi, h0, hn, hb, hm, wr1 hi (by omega)]
            · dsimp only
              rw [gi_drop hi, seenF, if_pos (by omega), insS, if_pos hm]
          · have hlow := low_le (vs := vs) (v := -1 - gi r i)
            have hl' : (lowS vs (-1 - gi r i) : Int) ≤ vs.length := by omega
            have hil : insS vs (-1 - gi r i) = vs.take (lowS vs (-1 - gi r i)) ++ (-1 - gi r i) :: vs.drop (lowS vs (-1 - gi r i)) := by rw [insS, if_neg hm]
            refine .go (insS vs (-1 - gi r i), i + 1) (wpQ_way (q36_l0a _ _ _ (ints vs) z (ints r) e _ i _) ?_) ⟨by dsimp only; omega, up_ins hx2, by have := ins_len (vs := vs) (v := -1 - gi r i); dsimp only; omega⟩ (by dsimp only; omega) ?_
            · have hbig : (vs.length + 1) * 8 ≤ 140737488355328 := by omega
              have hin : ints (insS vs (-1 - gi r i)) = (ints vs).take (lowS vs (-1 - gi r i)) ++ .int .i64 (-1 - gi r i) :: (ints vs).drop (lowS vs (-1 - gi r i)) := by
                rw [hil]; simp [ints]
              have hne : (insS vs (-1 - gi r i)).isEmpty = false := by rw [hil]; simp
              dsimp only
              rw [hne, hin]
              simp [-Bool.exists_bool, -getElem?_pos, -Int.natCast_add, hi', Go.Ab.ints_at hi, h0, hn, hb, hm, wr1 hi (by omega), ints_len, hl', hbig, hlow]
            · dsimp only
              rw [gi_drop hi, seenF, if_pos (by omega)]
      · have e1 : i = r.length := by omega
        subst e1
        refine .stop (.exit 0 [(0, .own vs.isEmpty 3 1 (ints vs)), (9, iS z r e), (10, iI r.length), (11, iI r.length)]) (wpQ_way (q36_l0a _ _ _ (ints vs) z (ints r) e _ _ _) (by simp)) rfl ?_
        simp [blkO, seenF]) x hx
  have h2 : evP F (Go.Ab.W F) (JW F d36 []) d36 [] [1,0,1] [(0, .own us.isEmpty 3 1 (ints us)), (9, iS z r e), (10, iI r.length), (11, iI 0)] = _ := h1 (us, 0) ⟨Nat.zero_le _, hu, Nat.le_refl _⟩
  rw [List.drop_zero] at h2
  simp [-Bool.exists_bool, ints_len, h2]
end Go.Proofs.YtjhganbjbiihoaaDoor.Ab

/- slices.Grow of this seat's translation is the one of the library's contract. No condition. -/
set_option linter.unusedVariables false
set_option maxRecDepth 100000
namespace Go.Proofs.YtjhganbjbiihoaaDoor.Ab
open Go Go.Ab Go.Proofs
def growRen : Go.Shelf.Ren := ⟨fun | 4 => 63 | n => n, fun | 0 => 0 | 3 => 3 | 4 => 4 | 9 => 9 | 20 => 20 | 22 => 23 | 25 => 57 | n => n, fun | n => n⟩
theorem growLays : Go.Proofs.Lays8.n4 Tryd.prog growRen := {
  mixed := by kernel_rfl
  f4 := ⟨Tryd.f63.name, by kernel_rfl, Tryd.func63.trans (congrArg some (by kernel_rfl))⟩
  t0 := Tryd.underlying0
  a0 := Tryd.isAgg0
  z0 := Tryd.sizeOf0
  v0 := Tryd.zeroValue0
  t3 := Tryd.underlying3
  a3 := Tryd.isAgg3
  z3 := Tryd.sizeOf3
  v3 := Tryd.zeroValue3
  t4 := Tryd.underlying4
  a4 := Tryd.isAgg4
  z4 := Tryd.sizeOf4
  v4 := Tryd.zeroValue4
  t9 := Tryd.underlying9
  a9 := Tryd.isAgg9
  z9 := Tryd.sizeOf9
  v9 := Tryd.zeroValue9
  t20 := Tryd.underlying20
  a20 := Tryd.isAgg20
  z20 := Tryd.sizeOf20
  v20 := Tryd.zeroValue20
  t22 := Tryd.underlying23
  a22 := Tryd.isAgg23
  z22 := Tryd.sizeOf23
  v22 := Tryd.zeroValue23 }
theorem growChk : (match Tryd.prog.info? 57 with | some i => (match i.zero with | some z => Nat.beq i.size 2 && (Nat.ble i.bytes 1000 && Nat.beq z.cells.size 2) | none => false) | none => false) = true := by kernel_rfl
theorem growInfo : ∃ i0 z, Tryd.prog.info? 57 = some i0 ∧ i0.zero = some z ∧ i0.size = 2 ∧ i0.bytes ≤ 1000 ∧ z.cells.size = 2 := by
  have h := growChk
  split at h
  · rename_i i hi
    split at h
    · rename_i z hz
      simp only [Bool.and_eq_true] at h
      exact ⟨i, z, hi, hz, Nat.eq_of_beq_eq_true h.1, Nat.le_of_ble_eq_true h.2.1, Nat.eq_of_beq_eq_true h.2.2⟩
    · cases h
  · cases h
theorem growFn : FnOk Tryd.prog 63 := ⟨_, Tryd.func63, by kernel_rfl, by kernel_rfl⟩
theorem primOk (f : FuncId) (p : List IV → Option (IV × List IV)) (args : List IV) (r : IV) (outs : List IV) (h : F.prim f = some p) (h2 : p args = some (r, outs)) : FnOk Tryd.prog f ∧ CallSpec Tryd.prog F.G f args r outs := by
  have h3 : (match (generalizing := false) f with | 63 => some (growP 57 2) | _ => none) = some p := h
  split at h3
  · simp only [Option.some.injEq] at h3
    subst h3
    obtain ⟨i0, z, k1, k2, k3, k4, k5⟩ := growInfo
    exact ⟨growFn, grow_spec growLays (sz := 2) k1 k2 k3 (by omega) k5 k4 h2⟩
  · cases h3
end Go.Proofs.YtjhganbjbiihoaaDoor.Ab

/- What clauses weigh, their variables: what the program's functions hand back. For every input; no condition. -/
set_option linter.unusedVariables false
set_option linter.unusedSimpArgs false
set_option maxRecDepth 100000
namespace Go.Proofs.YtjhganbjbiihoaaDoor.Ab
open Go Go.Ab Go.Qu Go.Proofs
attribute [local simp] and_assoc
theorem w_grow (n : Nat) (hn : n ≤ 1000000) : C 63 [.d (.sl 2 true [] []), iI n] = some (.own (decide ((n : Int) = 0)) 57 2 [], [.d (.sl 2 true [] []), iI n]) := by
  refine W_prim (p := growP 57 2) rfl ?_
  unfold growP
  dsimp only
  rw [if_pos ⟨by omega, by omega⟩]
theorem lits_empty (a : List LitR) : (lits a).isEmpty = a.isEmpty := by cases a <;> rfl
theorem w_concat {a b : List LitR} (ha : a.length ≤ 1000) (hb : b.length ≤ 1000) (z z' : Bool) (e e' : List D) : C 35 [.d (.sl 1 false [.sl 2 z (lits a) e, .sl 2 z' (lits b) e'] [])] = some (.own (decide (((a.length + b.length : Nat) : Int) = 0)) 57 2 (lits (a ++ b)), [.d (.sl 1 false [.sl 2 z (lits a) e, .sl 2 z' (lits b) e'] [])]) := by
  refine wfn (lk := []) rfl rfl (fnW_way (q35 _ _ false [.sl 2 z (lits a) e, .sl 2 z' (lits b) e'] [] _) ?_)
  have h1 := blk_fun (F := F) (d := d35) (lk := []) (p := [1,1,0,1,0,0]) (p0 := [1,1,0,1]) (id := 0) (by kernel_rfl) (st := fun (i : Nat) => [(0, .d (.sl 1 false [.sl 2 z (lits a) e, .sl 2 z' (lits b) e'] [])), (3, iI (if i = 0 then 0 else if i = 1 then (a.length : Int) else ((a.length + b.length : Nat) : Int))), (9, .d (.sl 1 false [.sl 2 z (lits a) e, .sl 2 z' (lits b) e'] [])), (10, iI 2), (11, iI i)]) (I := fun i => i ≤ 2) (μ := fun i => 2 - i)
    (res := fun _ => .norm [(0, .d (.sl 1 false [.sl 2 z (lits a) e, .sl 2 z' (lits b) e'] [])), (3, iI ((a.length + b.length : Nat) : Int)), (9, .d (.sl 1 false [.sl 2 z (lits a) e, .sl 2 z' (lits b) e'] [])), (10, iI 2), (11, iI 2)])
    (fun i hi => by
      have hw1 : IntKind.wrap .i64 (0 + (a.length : Int)) = (a.length : Int) := by rw [wr _ (by omega) (by omega)]; omega
      have hw2 : IntKind.wrap .i64 ((a.length : Int) + (b.length : Int)) = ((a.length + b.length : Nat) : Int) := by rw [wr _ (by omega) (by omega)]; omega
      have hn1 : ¬ (a.length : Int) < 0 := by omega
      have hn2 : ¬ ((a.length + b.length : Nat) : Int) < 0 := by omega
      have hw3 : IntKind.wrap .i64 (0 + 1) = 1 := by rw [wr _ (by omega) (by omega)]; omega
      have hw4 : IntKind.wrap .i64 (1 + 1) = 2 := by rw [wr _ (by omega) (by omega)]; omega
      have h3 : i = 0 ∨ i = 1 ∨ i = 2 := by omega
      rcases h3 with rfl | rfl | rfl
      · refine .go 1 (wpQ_way (q35_l0a _ _ false [.sl 2 z (lits a) e, .sl 2 z' (lits b) e'] [] 0 false [.sl 2 z (lits a) e, .sl 2 z' (lits b) e'] [] 2 0 _) ?_) (by omega) (by omega) rfl
        refine condW_t (by decide) (condW_t (by decide) ⟨_, _, _, rfl, ?_⟩)
        rw [lits_len, hw1]
        exact condW_f (decide_eq_false hn1) (by rw [hw3]; rfl)
      · refine .go 2 (wpQ_way (q35_l0a _ _ false [.sl 2 z (lits a) e, .sl 2 z' (lits b) e'] [] a.length false [.sl 2 z (lits a) e, .sl 2 z' (lits b) e'] [] 2 1 _) ?_) (by omega) (by omega) rfl
        refine condW_t (by decide) (condW_t (by decide) ⟨_, _, _, rfl, ?_⟩)
        rw [lits_len, hw2]
        exact condW_f (decide_eq_false hn2) (by rw [hw4]; rfl)
      · exact .stop (.exit 0 [(0, .d (.sl 1 false [.sl 2 z (lits a) e, .sl 2 z' (lits b) e'] [])), (3, iI ((a.length + b.length : Nat) : Int)), (9, .d (.sl 1 false [.sl 2 z (lits a) e, .sl 2 z' (lits b) e'] [])), (10, iI 2), (11, iI 2)]) (wpQ_way (q35_l0a _ _ false [.sl 2 z (lits a) e, .sl 2 z' (lits b) e'] [] _ false [.sl 2 z (lits a) e, .sl 2 z' (lits b) e'] [] 2 2 _) (condW_f (by decide) rfl)) rfl rfl) 0 (Nat.zero_le _)
  have hg := w_grow (a.length + b.length) (by omega)
  generalize hzf : decide (((a.length + b.length : Nat) : Int) = 0) = zf at hg ⊢
  have hza : (zf && (lits a).isEmpty) = zf := by
    rw [← hzf, lits_empty]
    by_cases h0 : a.length + b.length = 0
    · have : a = [] := List.length_eq_zero_iff.1 (by omega)
      subst this; simp
    · have : ¬ ((a.length + b.length : Nat) : Int) = 0 := by omega
      rw [decide_eq_false this]; rfl
  have hzb : (zf && (lits b).isEmpty) = zf := by
    rw [← hzf, lits_empty]
    by_cases h0 : a.length + b.length = 0
    · have : b = [] := List.length_eq_zero_iff.1 (by omega)
      subst this; simp
    · have : ¬ ((a.length + b.length : Nat) : Int) = 0 := by omega
      rw [decide_eq_false this]; rfl
  have h2 := blk_fun (F := F) (d := d35) (lk := []) (p := [1,1,1,1,0,1,0,0]) (p0 := [1,1,1,1,0,1]) (id := 2) (by kernel_rfl) (st := fun (i : Nat) => [(6, .own zf 57 2 (lits (if i = 0 then [] else if i = 1 then a else a ++ b))), (25, .d (.sl 1 false [.sl 2 z (lits a) e, .sl 2 z' (lits b) e'] [])), (26, iI 2), (27, iI i)]) (I := fun i => i ≤ 2) (μ := fun i => 2 - i)
    (res := fun _ => .norm [(6, .own zf 57 2 (lits (a ++ b))), (25, .d (.sl 1 false [.sl 2 z (lits a) e, .sl 2 z' (lits b) e'] [])), (26, iI 2), (27, iI 2)])
    (fun i hi => by
      have hw3 : IntKind.wrap .i64 (0 + 1) = 1 := by rw [wr _ (by omega) (by omega)]; omega
      have hw4 : IntKind.wrap .i64 (1 + 1) = 2 := by rw [wr _ (by omega) (by omega)]; omega
      have h3 : i = 0 ∨ i = 1 ∨ i = 2 := by omega
      rcases h3 with rfl | rfl | rfl
      · refine .go 1 (wpQ_way (q35_l2a _ _ zf (lits []) false [.sl 2 z (lits a) e, .sl 2 z' (lits b) e'] [] 2 0 _) ?_) (by omega) (by omega) rfl
        refine condW_t (by decide) (condW_t (by decide) ⟨_, _, _, rfl, condW_t (by simp [lits_len, lits_nil]; omega) (condW_t (by simp [lits_len, lits_nil]; omega) ?_)⟩)
        rw [hza, hw3]; rfl
      · refine .go 2 (wpQ_way (q35_l2a _ _ zf (lits a) false [.sl 2 z (lits a) e, .sl 2 z' (lits b) e'] [] 2 1 _) ?_) (by omega) (by omega) rfl
        refine condW_t (by decide) (condW_t (by decide) ⟨_, _, _, rfl, condW_t (by simp [lits_len]; omega) (condW_t (by simp [lits_len]; omega) ?_)⟩)
        rw [hzb, hw4, ← lits_append]; rfl
      · exact .stop (.exit 2 [(6, .own zf 57 2 (lits (a ++ b))), (25, .d (.sl 1 false [.sl 2 z (lits a) e, .sl 2 z' (lits b) e'] [])), (26, iI 2), (27, iI 2)]) (wpQ_way (q35_l2a _ _ zf (lits (a ++ b)) false [.sl 2 z (lits a) e, .sl 2 z' (lits b) e'] [] 2 2 _) (condW_f (by decide) rfl)) rfl rfl) 0 (Nat.zero_le _)
  exact ⟨_, _, _, _, _, _, _, _, _, h1, _, _, _, _, hg, _, _, _, _, _, _, _, h2, rfl⟩
theorem seen_len : ∀ (r vs : List Int), (seenF vs r).length ≤ vs.length + r.length
  | [], vs => by simp [seenF]
  | c :: r, vs => by
    rw [seenF]
    have := seen_len r (if c < 0 then insS vs (-1 - c) else vs)
    have h2 : (if c < 0 then insS vs (-1 - c) else vs).length ≤ vs.length + 1 := by
      split
      · exact ins_len
      · omega
    simp; omega
abbrev fold (us : List Int) (rs : List (List Int)) : List Int := rs.foldl seenF us
theorem w_clvars (z : Bool) (g : List Sym) (e : List D) {c : Cl} (hn : NilC c) : C 12 [iG z g e, iC c] = some (.tup [.own (if clB g c = true then varsC c.c.rows else []).isEmpty 3 1 (ints (if clB g c = true then varsC c.c.rows else [])), iI (if clB g c = true then 0 else 800)], [iG z g e, iC c]) := by
  refine wfn (lk := []) rfl rfl (fnW_way (q12 _ _ z (syms g) e c.lz (lits c.ls) c.le c.tz (rws c.ts) c.te c.cz (lits c.cs) c.ce _) ?_)
  refine ⟨_, _, _, w_clmay z g e c, ?_⟩
  cases hb : clB g c
  · rfl
  rw [condW_tt]
  have hr := clRow_of hb hn
  have hk := clOk.1 ((clB_c g c).symm.trans hb)
  have e1 : c.ls.length ≤ 5 := by have := hk.l5; simpa [Cl.c] using this
  have e2 : c.ts.length ≤ 3 := by have := hk.t3; simpa [Cl.c] using this
  have e3 : c.cs.length ≤ 3 := by have := hk.c3; simpa [Cl.c] using this
  have h49 : ∀ r ∈ rowsOf c, r.l.length ≤ 49 ∧ ∀ x ∈ r.l, -24 ≤ x := fun r hr' => by
    simp only [rowsOf, List.mem_append, List.mem_map] at hr'
    rcases hr' with (⟨l, hl, rfl⟩ | hr') | ⟨l, hl, rfl⟩
    · have := atom_codes (hk.la l.c (by simp [Cl.c]; exact ⟨l, hl, rfl⟩))
      exact ⟨this.1, fun x hx => (this.2.1 x hx).1⟩
    · obtain ⟨k, hk⟩ := hk.tr
      have h1 := (hk r.l (by simp [Cl.c]; exact ⟨r, hr', rfl⟩)).1
      have := (rowB_parts h1).2.1
      exact ⟨by omega, fun x hx => (row_codes h1 x hx).1⟩
    · have := atom_codes (hk.ca l.c (by simp [Cl.c]; exact ⟨l, hl, rfl⟩))
      exact ⟨this.1, fun x hx => (this.2.1 x hx).1⟩
  have hcc := w_concat (a := c.ls) (b := c.cs) (by omega) (by omega) c.lz c.cz c.le c.ce
  obtain ⟨L, hL⟩ : ∃ L, L = c.ls ++ c.cs := ⟨_, rfl⟩
  rw [← hL] at hcc
  have hLn : L.length ≤ 8 := by rw [hL]; simp; omega
  have hLm : ∀ l ∈ L, l.r ∈ rowsOf c := fun l hl => by
    rw [hL, List.mem_append] at hl
    simp only [rowsOf, List.mem_append, List.mem_map]
    rcases hl with hl | hl
    · exact .inl (.inl ⟨l, hl, rfl⟩)
    · exact .inr ⟨l, hl, rfl⟩
  generalize hzf : decide (((c.ls.length + c.cs.length : Nat) : Int) = 0) = zf at hcc
  have h1 := fun x hx => blk_fun (F := F) (d := d12) (lk := []) (p := [1,1,1,0,1,0,0]) (p0 := [1,1,1,0,1]) (id := 0) (by kernel_rfl) (st := fun (x : List Int × Nat) => [(3, bC c), (6, .own x.1.isEmpty 3 1 (ints x.1)), (20, .own zf 57 2 (lits L)), (21, iI L.length), (22, iI x.2)]) (I := fun x => x.2 ≤ L.length ∧ Up x.1 ∧ x.1.length ≤ 49 * x.2) (μ := fun x => L.length - x.2)
    (res := fun x => .norm [(3, bC c), (6, .own (fold x.1 ((L.drop x.2).map fun l => l.r.l)).isEmpty 3 1 (ints (fold x.1 ((L.drop x.2).map fun l => l.r.l)))), (20, .own zf 57 2 (lits L)), (21, iI L.length), (22, iI L.length)])
    (fun x hx => by
      obtain ⟨us, i⟩ := x
      obtain ⟨hx1, hx2, hx3⟩ := hx
      dsimp only at hx1 hx2 hx3
      by_cases hi : i < L.length
      · obtain ⟨l, hl1⟩ := at_lt hi
        have hd : L.drop i = l :: L.drop (i + 1) := by
          rw [List.drop_eq_getElem_cons hi]
          rw [List.getElem?_eq_getElem hi] at hl1
          cases hl1; rfl
        have hlr := h49 l.r (hLm l (List.mem_of_getElem? hl1))
        have hs := w_seen2 hx2 (by omega) (r := l.r.l) (by omega) (fun x hx => by have := hlr.2 x hx; omega) l.r.z l.r.e
        have hlen := seen_len l.r.l us
        have hi' : (i : Int) < L.length := by omega
        refine .go (seenF us l.r.l, i + 1) (wpQ_way (q12_l0a _ _ c.lz (lits c.ls) c.le c.tz (rws c.ts) c.te c.cz (lits c.cs) c.ce us.isEmpty (ints us) zf (lits L) _ i _) ?_) ⟨by dsimp only; omega, up_seen hx2, by dsimp only; omega⟩ (by dsimp only; omega) ?_
        · simp [-Bool.exists_bool, -getElem?_pos, -Int.natCast_add, hi', lits_at hl1, hs, wr1 hi (by omega)]
        · dsimp only; rw [hd]; rfl
      · have ei : i = L.length := by omega
        subst ei
        refine .stop (.exit 0 [(3, bC c), (6, .own us.isEmpty 3 1 (ints us)), (20, .own zf 57 2 (lits L)), (21, iI L.length), (22, iI L.length)]) (wpQ_way (q12_l0a _ _ c.lz (lits c.ls) c.le c.tz (rws c.ts) c.te c.cz (lits c.cs) c.ce us.isEmpty (ints us) zf (lits L) _ _ _) (by simp)) rfl ?_
        simp [blkO, fold]) x hx
  have h2 := fun x hx => blk_fun (F := F) (d := d12) (lk := []) (p := [1,1,1,1,0,1,0,0]) (p0 := [1,1,1,1,0,1]) (id := 2) (by kernel_rfl) (st := fun (x : List Int × Nat) => [(6, .own x.1.isEmpty 3 1 (ints x.1)), (32, iR c.tz c.ts c.te), (33, iI c.ts.length), (34, iI x.2)]) (I := fun x => x.2 ≤ c.ts.length ∧ Up x.1 ∧ x.1.length ≤ 400 + 49 * x.2) (μ := fun x => c.ts.length - x.2)
    (res := fun x => .norm [(6, .own (fold x.1 ((c.ts.drop x.2).map fun r => r.l)).isEmpty 3 1 (ints (fold x.1 ((c.ts.drop x.2).map fun r => r.l)))), (32, iR c.tz c.ts c.te), (33, iI c.ts.length), (34, iI c.ts.length)])
    (fun x hx => by
      obtain ⟨us, i⟩ := x
      obtain ⟨hx1, hx2, hx3⟩ := hx
      dsimp only at hx1 hx2 hx3
      by_cases hi : i < c.ts.length
      · obtain ⟨l, hl1⟩ := at_lt hi
        have hd : c.ts.drop i = l :: c.ts.drop (i + 1) := by
          rw [List.drop_eq_getElem_cons hi]
          rw [List.getElem?_eq_getElem hi] at hl1
          cases hl1; rfl
        have hlr := h49 l (by simp [rowsOf, List.mem_of_getElem? hl1])
        have hs := w_seen2 hx2 (by omega) (r := l.l) (by omega) (fun x hx => by have := hlr.2 x hx; omega) l.z l.e
        have hlen := seen_len l.l us
        have hi' : (i : Int) < c.ts.length := by omega
        refine .go (seenF us l.l, i + 1) (wpQ_way (q12_l2a _ _ us.isEmpty (ints us) c.tz (rws c.ts) c.te _ i _) ?_) ⟨by dsimp only; omega, up_seen hx2, by dsimp only; omega⟩ (by dsimp only; omega) ?_
        · simp [-Bool.exists_bool, -getElem?_pos, -Int.natCast_add, hi', rws_at hl1, hs, wr1 hi (by omega)]
        · dsimp only; rw [hd]; rfl
      · have ei : i = c.ts.length := by omega
        subst ei
        refine .stop (.exit 2 [(6, .own us.isEmpty 3 1 (ints us)), (32, iR c.tz c.ts c.te), (33, iI c.ts.length), (34, iI c.ts.length)]) (wpQ_way (q12_l2a _ _ us.isEmpty (ints us) c.tz (rws c.ts) c.te _ _ _) (by simp)) rfl ?_
        simp [blkO, fold]) x hx
  have h3 : evP F (Go.Ab.W F) (JW F d12 []) d12 [] [1,1,1,0,1] [(3, bC c), (6, .own true 3 1 []), (20, .own zf 57 2 (lits L)), (21, iI L.length), (22, iI 0)] = _ := h1 ([], 0) ⟨Nat.zero_le _, List.Pairwise.nil, Nat.le_refl _⟩
  rw [List.drop_zero] at h3
  have hup : Up (fold [] (L.map fun l => l.r.l)) := up_folds List.Pairwise.nil
  have hfl : ∀ (rs : List (List Int)) (us : List Int), (∀ r ∈ rs, r.length ≤ 49) → (fold us rs).length ≤ us.length + 49 * rs.length := by
    intro rs
    induction rs with
    | nil => intro us _; simp [fold]
    | cons r rs ih =>
      intro us h
      have h4 := ih (seenF us r) (fun x hx => h x (by simp [hx]))
      have h5 := seen_len r us
      have h6 := h r (by simp)
      simp only [fold, List.foldl_cons, List.length_cons] at h4 ⊢
      omega
  have hfn : (fold [] (L.map fun l => l.r.l)).length ≤ 400 := by
    have := hfl (L.map fun l => l.r.l) [] (fun r hr' => by
      obtain ⟨l, hl, rfl⟩ := List.mem_map.1 hr'
      exact (h49 l.r (hLm l hl)).1)
    simp at this; omega
  have h4 := h2 (fold [] (L.map fun l => l.r.l), 0) ⟨Nat.zero_le _, hup, by dsimp only; omega⟩
  rw [List.drop_zero] at h4
  have hall : fold (fold [] (L.map fun l => l.r.l)) (c.ts.map fun r => r.l) = varsC c.c.rows := by
    have h5 : fold (fold [] (L.map fun l => l.r.l)) (c.ts.map fun r => r.l) = varsC ((L.map fun l => l.r.l) ++ (c.ts.map fun r => r.l)) := by
      unfold varsC; rw [List.foldl_append]
    rw [h5]
    refine vars_ext fun r => ?_
    rw [hL]
    simp only [CC.rows, Cl.c, List.map_append, List.map_map, List.mem_append]
    constructor
    · rintro ((h | h) | h)
      · exact .inl (.inl h)
      · exact .inr h
      · exact .inl (.inr h)
    · rintro ((h | h) | h)
      · exact .inl (.inl h)
      · exact .inr h
      · exact .inl (.inr h)
  dsimp only at h3 h4
  rw [hall] at h4
  refine ⟨_, _, _, hcc, ?_⟩
  rw [lits_len]
  refine ⟨_, _, _, _, _, _, _, _, _, _, _, _, _, _, _, h3, ?_⟩
  rw [rws_len]
  exact ⟨_, _, _, _, _, _, _, h4, rfl⟩
theorem w_clweight (z : Bool) (g : List Sym) (e : List D) (c : Cl) : C 10 [iG z g e, iC c] = some (.tup [iI (if clB g c = true then wtL g c.c.ls else 0), iI (if clB g c = true then 0 else 800)], [iG z g e, iC c]) := by
  refine wfn (lk := []) rfl rfl (fnW_way (q10 _ _ z (syms g) e c.lz (lits c.ls) c.le c.tz (rws c.ts) c.te c.cz (lits c.cs) c.ce _) ?_)
  refine ⟨_, _, _, w_clmay z g e c, ?_⟩
  cases hb : clB g c
  · rfl
  rw [condW_tt]
  have hk := clOk.1 ((clB_c g c).symm.trans hb)
  have hg := sigOk hk.sg
  have e1 : c.ls.length ≤ 5 := by have := hk.l5; simpa [Cl.c] using this
  have hla : ∀ l ∈ c.ls, atomB g l.r.l = true := fun l hl => hk.la l.c (by simp [Cl.c]; exact ⟨l, hl, rfl⟩)
  have hw980 : ∀ l ∈ c.ls, 0 ≤ sumW g l.r.l ∧ sumW g l.r.l ≤ 980 := fun l hl => by
    have h1 := sumW_le hg l.r.l (atom_known (hla l hl))
    have h2 := (atom_codes (hla l hl)).1
    omega
  have h1 := fun x hx => blk_fun (F := F) (d := d10) (lk := []) (p := [1,1,1,0,1,0,0]) (p0 := [1,1,1,0,1]) (id := 0) (by kernel_rfl) (st := fun (x : Int × Nat) => [(0, iG z g e), (6, iI x.1), (14, iL c.lz c.ls c.le), (15, iI c.ls.length), (16, iI x.2)]) (I := fun x => x.2 ≤ c.ls.length ∧ 0 ≤ x.1 ∧ x.1 ≤ 980 * x.2) (μ := fun x => c.ls.length - x.2)
    (res := fun x => .norm [(0, iG z g e), (6, iI (x.1 + wtL g ((c.ls.drop x.2).map LitR.c))), (14, iL c.lz c.ls c.le), (15, iI c.ls.length), (16, iI c.ls.length)])
    (fun x hx => by
      obtain ⟨n, i⟩ := x
      obtain ⟨hx1, hx2, hx3⟩ := hx
      dsimp only at hx1 hx2 hx3
      by_cases hi : i < c.ls.length
      · obtain ⟨l, hl1⟩ := at_lt hi
        have hd : c.ls.drop i = l :: c.ls.drop (i + 1) := by
          rw [List.drop_eq_getElem_cons hi]
          rw [List.getElem?_eq_getElem hi] at hl1
          cases hl1; rfl
        have hlm := List.mem_of_getElem? hl1
        have ha := hla l hlm
        have h9 := hw980 l hlm
        have hlen : Len l.r.l := by have := (atom_codes ha).1; unfold Len; omega
        have hs := w_sum hg hlen (atom_known ha) z l.r.z e l.r.e
        have hi' : (i : Int) < c.ls.length := by omega
        have hw : IntKind.wrap .i64 (n + sumW g l.r.l) = n + sumW g l.r.l := wr _ (by omega) (by omega)
        refine .go (n + sumW g l.r.l, i + 1) (wpQ_way (q10_l0a _ _ z (syms g) e n c.lz (lits c.ls) c.le _ i _) ?_) ⟨by dsimp only; omega, by dsimp only; omega, by dsimp only; omega⟩ (by dsimp only; omega) ?_
        · simp [-Bool.exists_bool, -getElem?_pos, -Int.natCast_add, hi', lits_at hl1, hs, wr1 hi (by omega), hw]
        · dsimp only; rw [hd, List.map_cons, wtL, Int.add_assoc]; rfl
      · have ei : i = c.ls.length := by omega
        subst ei
        refine .stop (.exit 0 [(0, iG z g e), (6, iI n), (14, iL c.lz c.ls c.le), (15, iI c.ls.length), (16, iI c.ls.length)]) (wpQ_way (q10_l0a _ _ z (syms g) e n c.lz (lits c.ls) c.le _ _ _) (by simp)) rfl ?_
        simp [blkO, wtL]) x hx
  have h2 : evP F (Go.Ab.W F) (JW F d10 []) d10 [] [1,1,1,0,1] [(0, iG z g e), (6, iI 0), (14, iL c.lz c.ls c.le), (15, iI c.ls.length), (16, iI 0)] = _ := h1 (0, 0) ⟨Nat.zero_le _, Int.le_refl _, by simp⟩
  rw [List.drop_zero, Int.zero_add] at h2
  rw [lits_len]
  exact ⟨_, _, _, _, _, _, _, _, _, h2, rfl⟩
end Go.Proofs.YtjhganbjbiihoaaDoor.Ab

/- Structures of a few things: what holds in them holds of a clause just where it holds of its normal one; what says nothing holds in all. Plain lists; no condition. -/
set_option linter.unusedVariables false
set_option linter.unusedSimpArgs false
namespace Go.Qu
open Go Go.Ab

/-- The values of so many terms; `tv` tells what a symbol means. -/
def evT (g : List Sym) (tv : Int → List Int → Int) (env : Int → Int) : List Int → Nat → List Int
  | _, 0 => []
  | [], _ + 1 => []
  | c :: r, n + 1 => if c < 0 then env c :: evT g tv env r n else
    tv c ((evT g tv env r (n + (arOf g c).getD 0)).take ((arOf g c).getD 0)) :: (evT g tv env r (n + (arOf g c).getD 0)).drop ((arOf g c).getD 0)
def valsF (g : List Sym) (tv : Int → List Int → Int) (env : Int → Int) (r : List Int) : List Int := evT g tv env r (termsN g r)
/-- Does an atom hold? `pv` tells it of a predicate. -/
def atomH (g : List Sym) (tv : Int → List Int → Int) (pv : Int → List Int → Bool) (env : Int → Int) (a : List Int) : Bool :=
  if gi a 0 = 0 then decide (gi (valsF g tv env a.tail) 0 = gi (valsF g tv env a.tail) 1) else pv (gi a 0) (valsF g tv env a.tail)
def litH (g : List Sym) (tv : Int → List Int → Int) (pv : Int → List Int → Bool) (env : Int → Int) (l : LC) : Bool := atomH g tv pv env l.2 != l.1
def tupH (g : List Sym) (tv : Int → List Int → Int) (qv : List Int → Bool) (env : Int → Int) (r : List Int) : Bool := qv (valsF g tv env r)
def hereH (g : List Sym) (tv : Int → List Int → Int) (pv : Int → List Int → Bool) (qv : List Int → Bool) (c : CC) (env : Int → Int) : Bool :=
  c.cs.any (fun l => !litH g tv pv env l) || (c.ls.any (litH g tv pv env) || c.ts.any (tupH g tv qv env))
theorem atom_row {g : List Sym} {p : Int} {r : List Int} (h : atomB g (p :: r) = true) : 0 ≤ p ∧ rowB g r = true := by
  simp only [atomB] at h
  split at h
  · cases h
  · split at h
    · cases h
    · simp only [Bool.and_eq_true] at h
      refine ⟨by omega, ?_⟩
      unfold rowB
      cases hp : rowP g r with
      | none => rw [hp] at h; simp at h
      | some ts => simp [h.1.2]
end Go.Qu

/- Binds: what they make of rows; two lists of binds as one. Plain lists, no program in sight; no condition. -/
set_option linter.unusedVariables false
set_option linter.unusedSimpArgs false
namespace Go.Qu
open Go Go.Ab
structure Bd where
  v : Int
  r : Row
def Bd.d (b : Bd) : D := .agg [.int .i64 b.v, .sl 1 b.r.z (ints b.r.l) b.r.e]
def bds (l : List Bd) : List D := l.map Bd.d
abbrev iBd (z : Bool) (l : List Bd) (e : List D) : IV := .d (.sl 2 z (bds l) e)
theorem bds_len (l : List Bd) : (bds l).length = l.length := by simp [bds]
theorem bds_append (l m : List Bd) : bds (l ++ m) = bds l ++ bds m := by simp [bds]
theorem bds_at {l : List Bd} {i : Nat} {s : Bd} (h : l[i]? = some s) : (bds l)[i]? = some (.agg [.int .i64 s.v, .sl 1 s.r.z (ints s.r.l) s.r.e]) := by simp [bds, h, Bd.d]
/-! ### What may be -/
/-! ### What stands for a variable -/
/-! ### One after the other -/
end Go.Qu

/- Where an equation holds, what is rewritten by it means the same; where a unit holds, its opposites mean nothing. Plain lists; no condition. -/
set_option linter.unusedVariables false
set_option linter.unusedSimpArgs false
namespace Go.Qu
open Go Go.Ab
theorem eq_sides {g : List Sym} {r : List Int} (h : atomB g (0 :: r) = true) : ∃ a b, r = a ++ b ∧ One g a ∧ One g b := by
  simp only [atomB] at h
  split at h
  · cases h
  split at h
  · cases h
  rename_i s hs
  simp only [Bool.and_eq_true] at h
  obtain ⟨⟨_, h2⟩, h3⟩ := h
  have har : s.ar = 2 := by
    unfold sigB at h2
    have hs' : g[0]? = some s := hs
    rw [hs'] at h2
    simp only [Bool.and_eq_true] at h2
    have := h2.1.2
    unfold eqSym at this
    simp only [Bool.and_eq_true] at this
    simpa using this.2.2.1
  unfold rowP at h3
  by_cases hr : r.length ≤ 48
  · rw [if_pos hr] at h3
    cases hps : parts g r with
    | none => rw [hps] at h3; cases h3
    | some ts =>
      rw [hps, har] at h3
      have hl : ts.length = 2 := by
        have : ((ts.length : Int) == 2) = true := h3
        simp at this
        omega
      have hn := parts_all _ (Nat.le_refl _) hps
      rw [hl] at hn
      obtain ⟨k1, k2, k3⟩ := pcs_row hn
      match hp : pcs g r, k3 with
      | [a, b], _ =>
        rw [hp] at k1 k2
        exact ⟨a, b, by simpa using k2.symm, k1 a (by simp), k1 b (by simp)⟩
  · rw [if_neg hr] at h3; cases h3
end Go.Qu

/- Clauses that say nothing: what the program's functions hand back. For every input; no condition. -/
set_option linter.unusedVariables false
set_option linter.unusedSimpArgs false
set_option maxRecDepth 100000
namespace Go.Proofs.YtjhganbjbiihoaaDoor.Ab
open Go Go.Ab Go.Qu Go.Proofs
attribute [local simp] and_assoc
theorem w_odd {l m : LitR} (hl : Len l.r.l) : C 40 [iLit m.neg m.r.z m.r.l m.r.e, pL l] = some (iB (oddB l.c m.c), [iLit m.neg m.r.z m.r.l m.r.e, pL l]) := by
  refine wfn (lk := []) rfl rfl (fnW_way (q40 _ _ m.neg m.r.z (ints m.r.l) m.r.e l.neg l.r.z (ints l.r.l) l.r.e _) ?_)
  have h1 := w_equal hl m.r.l l.r.z m.r.z l.r.e m.r.e
  obtain ⟨b1, ⟨lz, ll, le⟩⟩ := l
  obtain ⟨b2, ⟨mz, ml, me⟩⟩ := m
  dsimp only at h1
  have h2 : oddB (LitR.c ⟨b1, ⟨lz, ll, le⟩⟩) (LitR.c ⟨b2, ⟨mz, ml, me⟩⟩) = ((b1 != b2) && decide (ll = ml)) := rfl
  rw [h2]
  cases b1 <;> cases b2
  · exact condW_f rfl (condW_f rfl (by simp))
  · refine condW_f rfl (condW_t rfl ⟨_, _, _, h1, ?_⟩)
    cases decide (ll = ml)
    · exact condW_f rfl (by simp)
    · exact condW_t rfl (by simp)
  · refine condW_t rfl (condW_f rfl ⟨_, _, _, h1, ?_⟩)
    cases decide (ll = ml)
    · exact condW_f rfl (by simp)
    · exact condW_t rfl (by simp)
  · exact condW_t rfl (condW_t rfl (by simp))
theorem w_idxodd {l : LitR} (hl : Len l.r.l) {ls : List LitR} (hn : ls.length ≤ 1000) (z : Bool) (e : List D) : C 69 [iL z ls e, .fn 40 [pL l]] = some (iI (idxQ (fun m => oddB l.c m.c) ls), [iL z ls e, .fn 40 [pL l]]) := by
  refine wfn (lk := [1]) rfl rfl (fnW_way (q69 _ _ z (lits ls) e l.neg l.r.z (ints l.r.l) l.r.e _) ?_)
  have hl := blk_find (F := F) (d := d69) (lk := [1]) (p := [1,0,1,0,0]) (p0 := [1,0,1]) (by kernel_rfl) (n := ls.length) (id := 0) (st := fun i => [(0, iL z ls e), (1, .fn 40 [pL l]), (7, iI ls.length), (8, iI i)]) (q := fun i => match ls[i]? with | some m => oddB l.c m.c | none => false) (rt := fun i => [(1, .fn 40 [pL l]), (4, iI i)]) (e := [(0, iL z ls e), (1, .fn 40 [pL l]), (7, iI ls.length), (8, iI ls.length)])
    (fun i hi hq => by
      refine wpQ_way (q69_l0a _ _ z (lits ls) e l.neg l.r.z (ints l.r.l) l.r.e _ i _) ?_
      obtain ⟨m, hm⟩ := at_lt hi
      have h1 := w_odd (l := l) (m := m) hl
      rw [hm] at hq
      dsimp only at hq
      rw [hq] at h1
      simp [-Bool.exists_bool, -getElem?_pos, -Int.natCast_add, wr1 hi (by omega), hi, lits_at hm, h1])
    (fun i hi hq => by
      refine wpQ_way (q69_l0a _ _ z (lits ls) e l.neg l.r.z (ints l.r.l) l.r.e _ i _) ?_
      obtain ⟨m, hm⟩ := at_lt hi
      have h1 := w_odd (l := l) (m := m) hl
      rw [hm] at hq
      dsimp only at hq
      rw [hq] at h1
      simp [-Bool.exists_bool, -getElem?_pos, -Int.natCast_add, wr1 hi (by omega), hi, lits_at hm, h1])
    (wpQ_way (q69_l0a _ _ z (lits ls) e l.neg l.r.z (ints l.r.l) l.r.e _ ls.length _) (by simp)) 0 (Nat.zero_le _)
  rcases hl with ⟨h2, h3⟩ | ⟨j, h1, h2, h4, h5, h3⟩
  · rw [idxQ_none (fun k hk t ht => by have := h2 k (Nat.zero_le _) hk; rw [ht] at this; exact this)]
    rw [lits_len]
    exact .inr (.inl ⟨_, _, _, _, _, _, _, _, _, h3, rfl⟩)
  · rw [idxQ_some h2 (by have := h4; rw [List.getElem?_eq_getElem h2] at this; exact this) (fun k hk t ht => by have := h5 k (Nat.zero_le _) hk; rw [ht] at this; exact this)]
    rw [lits_len]
    exact .inl ⟨_, _, _, _, _, h3, rfl⟩
theorem w_hasodd {l : LitR} (hl : Len l.r.l) {ls : List LitR} (hn : ls.length ≤ 1000) (z : Bool) (e : List D) : C 39 [iL z ls e, .fn 40 [pL l]] = some (iB ((ls.map LitR.c).any (oddB l.c)), [iL z ls e, .fn 40 [pL l]]) := by
  refine wfn (lk := [1]) rfl rfl (fnW_way (q39 _ _ z (lits ls) e l.neg l.r.z (ints l.r.l) l.r.e _) ?_)
  have h1 := w_idxodd hl hn z e
  have h2 := idxQ_any (fun m => oddB l.c m.c) ls
  have h3 : (ls.map LitR.c).any (oddB l.c) = ls.any fun m => oddB l.c m.c := by rw [List.any_map]; rfl
  rw [h3, ← h2]
  by_cases h : 0 ≤ idxQ (fun m => oddB l.c m.c) ls
  · exact .inl ⟨_, _, _, h1, condW_t (decide_eq_true h) (by rw [decide_eq_true h])⟩
  · exact .inl ⟨_, _, _, h1, condW_f (decide_eq_false h) (by rw [decide_eq_false h])⟩
theorem w_selfsame {g : List Sym} (z : Bool) (e : List D) {l : LitR} (ha : atomB g l.r.l = true) : C 38 [iG z g e, iLit l.neg l.r.z l.r.l l.r.e] = some (iB (selfB g l.c), [iG z g e, iLit l.neg l.r.z l.r.l l.r.e]) := by
  refine wfn (lk := []) rfl rfl (fnW_way (q38 _ _ z (syms g) e l.neg l.r.z (ints l.r.l) l.r.e _) ?_)
  have hg := sigOk (atom_sig ha)
  obtain ⟨neg, ⟨rz, rl, re⟩⟩ := l
  dsimp only at ha ⊢
  cases rl with
  | nil => simp [atomB] at ha
  | cons p r =>
  have hrow := (atom_row ha).2
  have hr48 := (rowB_parts hrow).2.1
  cases neg with
  | true => exact condW_t rfl rfl
  | false =>
  refine condW_f rfl ⟨p, rfl, ?_⟩
  by_cases hp : p = 0
  rotate_left
  · refine condW_t (by simpa using hp) ?_
    have : selfB g (LitR.c ⟨false, ⟨rz, p :: r, re⟩⟩) = false := by
      have h0 : (gi (p :: r) 0 == 0) = false := by simpa [gi] using hp
      simp only [selfB, LitR.c]
      rw [h0]; rfl
    rw [this]
  subst hp
  refine condW_f rfl (condW_t (by rw [ints_len]; simp; omega) ?_)
  obtain ⟨a, b, rfl, ha1, hb1⟩ := eq_sides ha
  have hla := lenN_le ha1
  have hlb := lenN_le hb1
  have hn : lenN g (a ++ b) 2 = some (a ++ b).length := by
    have k1 := lenN_split (r := a ++ b) (n := 1) 1 (lenN_app b ha1)
    rw [List.drop_left, hb1] at k1
    rw [show (2 : Nat) = 1 + 1 from rfl, k1]; simp
  have hpc : pcs g (a ++ b) = [a, b] := by
    have := pcs_flat (g := g) (ts := [a, b]) (fun x hx => by
      simp at hx
      rcases hx with rfl | rfl
      · exact ha1
      · exact hb1)
    simpa using this
  have hs := w_pieces hg z rz e [] (r := a ++ b) (by omega) hn
  rw [hpc] at hs
  have hd : List.drop (Int.toNat 1) (ints (0 :: (a ++ b))) = ints (a ++ b) := rfl
  rw [hd]
  rw [List.length_append] at hr48
  have he := w_equal (a := a) (by unfold Len; omega) b rz rz [] []
  have hsf : selfB g (LitR.c ⟨false, ⟨rz, 0 :: (a ++ b), re⟩⟩) = decide (a = b) := by
    obtain ⟨_, _, ts, hts, _⟩ := rowB_parts hrow
    have h5 := pcs_parts _ (Nat.le_refl _) hts
    rw [hpc] at h5
    subst h5
    simp only [selfB, LitR.c, List.tail_cons, hts]
    simp [gi]
  rw [hsf]
  refine ⟨_, _, _, _, hs, _, rfl, _, _, _, rfl, _, rfl, _, _, _, rfl, _, _, _, he, ?_⟩
  cases decide (a = b)
  · exact condW_f rfl rfl
  · exact condW_t rfl rfl
theorem w_trivial (z : Bool) (g : List Sym) (e : List D) (c : Cl) : C 14 [iG z g e, iC c] = some (.tup [iB (clB g c && trivB g c.c.ls), iI (if clB g c = true then 0 else 800)], [iG z g e, iC c]) := by
  refine wfn (lk := []) rfl rfl (fnW_way (q14 _ _ z (syms g) e c.lz (lits c.ls) c.le c.tz (rws c.ts) c.te c.cz (lits c.cs) c.ce _) ?_)
  have h1 := w_clmay z g e c
  refine ⟨_, _, _, h1, ?_⟩
  cases hc : clB g c with
  | false => exact condW_f rfl rfl
  | true =>
  have hk := clOk.1 ((clB_c g c).symm.trans hc)
  have hl5 : c.ls.length ≤ 5 := by have := hk.l5; simpa [Cl.c] using this
  have hla : ∀ l ∈ c.ls, atomB g l.r.l = true := fun l hl => hk.la l.c (by simp [Cl.c]; exact ⟨l, hl, rfl⟩)
  refine condW_t rfl ?_
  rw [lits_len]
  obtain ⟨q, hq⟩ : ∃ q : LitR → Bool, q = fun l => selfB g l.c || (c.ls.map LitR.c).any (oddB l.c) := ⟨_, rfl⟩
  have htq : trivB g c.c.ls = c.ls.any q := by
    have : c.c.ls = c.ls.map LitR.c := rfl
    rw [this, trivB, List.any_map, hq]
    rfl
  have hl := blk_find (F := F) (d := d14) (lk := []) (p := [1,1,0,1,0,0]) (p0 := [1,1,0,1]) (by kernel_rfl) (n := c.ls.length) (id := 0) (st := fun i => [(0, iG z g e), (3, .dbox 26 0 [.sl 2 c.lz (lits c.ls) c.le, .sl 1 c.tz (rws c.ts) c.te, .sl 2 c.cz (lits c.cs) c.ce]), (13, iL c.lz c.ls c.le), (14, iI c.ls.length), (15, iI i)]) (q := fun i => match c.ls[i]? with | some l => q l | none => false) (rt := fun i => [(4, iB true), (5, iI 0)]) (e := [(0, iG z g e), (3, .dbox 26 0 [.sl 2 c.lz (lits c.ls) c.le, .sl 1 c.tz (rws c.ts) c.te, .sl 2 c.cz (lits c.cs) c.ce]), (13, iL c.lz c.ls c.le), (14, iI c.ls.length), (15, iI c.ls.length)])
    (fun i hi hqi => by
      refine wpQ_way (q14_l0a _ _ z (syms g) e c.lz (lits c.ls) c.le c.tz (rws c.ts) c.te c.cz (lits c.cs) c.ce c.lz (lits c.ls) c.le c.ls.length i _) ?_
      obtain ⟨l, hl⟩ := at_lt hi
      rw [hl] at hqi
      dsimp only at hqi
      rw [hq] at hqi
      dsimp only at hqi
      rw [Bool.or_eq_false_iff] at hqi
      have ha := hla l (List.mem_of_getElem? hl)
      have hlen := (atom_codes ha).1
      have k1 := w_selfsame z e ha
      have k2 := w_hasodd (l := l) (by unfold Len; omega) (ls := c.ls) (by omega) c.lz c.le
      rw [hqi.1] at k1
      rw [hqi.2] at k2
      refine condW_t (decide_eq_true (by omega)) (condW_t (decide_eq_true (by omega)) ⟨_, _, _, _, lits_at hl, _, _, _, k1, condW_f rfl (.inl ⟨_, _, _, k2, condW_f rfl ?_⟩)⟩)
      rw [wr1 hi (by omega)])
    (fun i hi hqi => by
      refine wpQ_way (q14_l0a _ _ z (syms g) e c.lz (lits c.ls) c.le c.tz (rws c.ts) c.te c.cz (lits c.cs) c.ce c.lz (lits c.ls) c.le c.ls.length i _) ?_
      obtain ⟨l, hl⟩ := at_lt hi
      rw [hl] at hqi
      dsimp only at hqi
      rw [hq] at hqi
      dsimp only at hqi
      have ha := hla l (List.mem_of_getElem? hl)
      have hlen := (atom_codes ha).1
      have k1 := w_selfsame z e ha
      have k2 := w_hasodd (l := l) (by unfold Len; omega) (ls := c.ls) (by omega) c.lz c.le
      refine condW_t (decide_eq_true (by omega)) (condW_t (decide_eq_true (by omega)) ⟨_, _, _, _, lits_at hl, _, _, _, k1, ?_⟩)
      cases hsf : selfB g l.c with
      | true => exact condW_t rfl rfl
      | false =>
        rw [hsf, Bool.false_or] at hqi
        rw [hqi] at k2
        exact condW_f rfl (.inl ⟨_, _, _, k2, condW_t rfl rfl⟩))
    (wpQ_way (q14_l0a _ _ z (syms g) e c.lz (lits c.ls) c.le c.tz (rws c.ts) c.te c.cz (lits c.cs) c.ce c.lz (lits c.ls) c.le c.ls.length c.ls.length _) (condW_f (decide_eq_false (by omega)) rfl)) 0 (Nat.zero_le _)
  rw [htq]
  rcases hl with ⟨h2, h3⟩ | ⟨j, _, h2, h4, _, h3⟩
  · have hno : c.ls.any q = false := by
      rw [List.any_eq_false]
      intro l hl2
      obtain ⟨i, hi⟩ := List.getElem?_of_mem hl2
      have := h2 i (Nat.zero_le _) (lt_at hi)
      rw [hi] at this
      simpa using this
    rw [hno]
    exact .inr ⟨_, _, _, _, _, _, _, _, _, _, _, _, _, _, _, _, _, h3, rfl⟩
  · have hyes : c.ls.any q = true := by
      obtain ⟨l, hl2⟩ := at_lt h2
      rw [hl2] at h4
      exact List.any_eq_true.2 ⟨l, List.mem_of_getElem? hl2, h4⟩
    rw [hyes]
    exact .inl ⟨_, _, h3, rfl⟩
end Go.Proofs.YtjhganbjbiihoaaDoor.Ab

/- How deep rows are: what the program's and the reference's functions hand back. For every input; no condition. -/
set_option linter.unusedVariables false
set_option linter.unusedSimpArgs false
set_option maxRecDepth 100000
namespace Go.Proofs.YtjhganbjbiihoaaDoor.Ab
open Go Go.Ab Go.Qu Go.Proofs
attribute [local simp] and_assoc
theorem l_behind {g : List Sym} (hg : SigOk g) (z z' : Bool) (e e' : List D) {r : List Int} (hr : r.length ≤ 1000000) (x : Nat × Nat) (k : Nat) (hx : lenN g (r.drop x.1) x.2 = some k) :
    evP F (Go.Ab.W F) (JW F d101 []) d101 [] [1,1,0] [(0, iG z g e), (1, iS z' r e'), (7, iI x.2), (8, iI x.1)] = some (.norm [(0, iG z g e), (1, iS z' r e'), (7, iI 0), (8, iI (x.1 + k : Nat))]) :=
  blk_fun (F := F) (d := d101) (lk := []) (p := [1,1,0,0,0]) (p0 := [1,1,0]) (id := 0) (by kernel_rfl) (st := fun (y : (Nat × Nat) × Nat) => [(0, iG z g e), (1, iS z' r e'), (7, iI y.1.2), (8, iI y.1.1)]) (I := fun y => lenN g (r.drop y.1.1) y.1.2 = some y.2) (μ := fun y => r.length - y.1.1)
    (res := fun y => .norm [(0, iG z g e), (1, iS z' r e'), (7, iI 0), (8, iI (y.1.1 + y.2 : Nat))])
    (fun y hy => by
      obtain ⟨⟨i, n⟩, k⟩ := y
      dsimp only at hy
      by_cases hn : n = 0
      · subst hn
        have hk : k = 0 := by cases hd : r.drop i <;> (rw [hd] at hy; simp [lenN] at hy; omega)
        subst hk
        refine .stop (.exit 0 [(0, iG z g e), (1, iS z' r e'), (7, iI 0), (8, iI i)]) (wpQ_way (q101_l0a _ _ z (syms g) e z' (ints r) e' 0 i _) (by simp)) rfl ?_
        simp [blkO]
      have hn1 : 1 ≤ n := by omega
      have hn2 : 0 < n := by omega
      have hle := lenN_le hy
      simp only [List.length_drop] at hle
      have hi : i < r.length := by omega
      have hd := gi_drop hi
      obtain ⟨n, rfl⟩ : ∃ m, n = m + 1 := ⟨n - 1, by omega⟩
      rw [hd] at hy
      obtain ⟨a, m, ha, hm, rfl⟩ := lenN_some hy
      have hw0 : IntKind.wrap .i64 (((n + 1 : Nat) : Int) - 1) = (n : Int) := by rw [wr _ (by omega) (by omega)]; omega
      have hw3 := wr1 hi (by omega)
      refine .go ((i + 1, n + a), m) (wpQ_way (q101_l0a _ _ z (syms g) e z' (ints r) e' ((n + 1 : Nat) : Int) i _) ?_) hm (by dsimp only; omega) (by dsimp only; rw [show i + 1 + m = i + (m + 1) by omega])
      dsimp only
      rw [hw0]
      have hn3 : ((n + 1 : Nat) : Int) > 0 := by omega
      by_cases h0 : gi r i < 0
      · have c1 : ¬ 0 ≤ gi r i := by omega
        have ha0 : a = 0 := by
          unfold arOf at ha; rw [if_pos h0] at ha; split at ha <;> simp at ha; exact ha.symm
        subst ha0
        simp [-Bool.exists_bool, -getElem?_pos, -Int.natCast_add, hn3, Go.Ab.ints_at hi, c1, h0, hw3]
      · have c1 : 0 ≤ gi r i := by omega
        unfold arOf at ha; rw [if_neg h0] at ha
        split at ha
        · cases ha
        · rename_i s hs
          split at ha
          · cases ha
          · cases ha
            have hnn := hg.nums _ _ hs
            have hw1 : IntKind.wrap .i64 ((n : Int) + s.ar) = ((n + s.ar.toNat : Nat) : Int) := by rw [wr _ (by omega) (by omega)]; omega
            simp [-Bool.exists_bool, -getElem?_pos, -Int.natCast_add, hn3, Go.Ab.ints_at hi, c1, h0, syms_at hs, hw1, hw3]) (x, k) hx
theorem w_behind {g : List Sym} (hg : SigOk g) (z z' : Bool) (e e' : List D) {r : List Int} (hr : r.length ≤ 1000000) (i k : Nat) (h : lenN g (r.drop i) 1 = some k) : C 101 [iG z g e, iS z' r e', iI i] = some (iI (i + k : Nat), [iG z g e, iS z' r e', iI i]) := by
  refine wfn (lk := []) rfl rfl (fnW_way (q101 _ _ z (syms g) e z' (ints r) e' i _) ?_)
  have h1 : evP F (Go.Ab.W F) (JW F d101 []) d101 [] [1,1,0] [(0, iG z g e), (1, iS z' r e'), (7, iI 1), (8, iI i)] = _ := l_behind hg z z' e e' hr (i, 1) k h
  simp [-Bool.exists_bool, h1]
def pieces (z : Bool) (ts : List (List Int)) : List Row := ts.map fun t => ⟨z, t, []⟩
theorem w_parts {g : List Sym} (hg : SigOk g) (z z' : Bool) (e e' : List D) {r : List Int} (hr : r.length ≤ 100000) {ts : List (List Int)} (hts : parts g r = some ts) : C 70 [iG z g e, iS z' r e'] = some (.own ts.isEmpty 33 1 (rws (pieces z' ts)), [iG z g e, iS z' r e']) := by
  refine wfn (lk := []) rfl rfl (fnW_way (q70 _ _ z (syms g) e z' (ints r) e' _) ?_)
  have hl := fun x hx => blk_fun (F := F) (d := d70) (lk := []) (p := [1,1,1,0,0,0]) (p0 := [1,1,1,0]) (id := 0) (by kernel_rfl) (st := fun (x : List (List Int) × Nat) => [(0, iG z g e), (1, iS z' r e'), (5, .own x.1.isEmpty 33 1 (rws (pieces z' x.1))), (6, iI x.2)]) (I := fun x => x.2 ≤ r.length ∧ x.1.length ≤ x.2 ∧ ∃ us, parts g (r.drop x.2) = some us ∧ x.1 ++ us = ts) (μ := fun x => r.length - x.2)
    (res := fun x => .norm [(0, iG z g e), (1, iS z' r e'), (5, .own ts.isEmpty 33 1 (rws (pieces z' ts))), (6, iI r.length)])
    (fun x hx => by
      obtain ⟨acc, i⟩ := x
      obtain ⟨hx1, hx2, us, hus, hx3⟩ := hx
      dsimp only at hx1 hx2 hus hx3
      rcases parts_cases hus with ⟨h5, rfl⟩ | ⟨k, vs, hlk, hv, rfl, hne⟩
      · have e1 : i = r.length := by have := congrArg List.length h5; simp at this; omega
        subst e1
        rw [List.append_nil] at hx3
        refine .stop (.exit 0 [(0, iG z g e), (1, iS z' r e'), (5, .own acc.isEmpty 33 1 (rws (pieces z' acc))), (6, iI r.length)]) (wpQ_way (q70_l0a _ _ z (syms g) e z' (ints r) e' _ _ _ _) (by simp [ints_len])) rfl ?_
        rw [hx3]; rfl
      · have hle := lenN_le hlk
        simp only [List.length_drop] at hle
        have hi : i < r.length := by omega
        have hs := w_behind hg z z' e e' (r := r) (by omega) i k hlk
        refine .go (acc ++ [(r.drop i).take k], i + k) (wpQ_way (q70_l0a _ _ z (syms g) e z' (ints r) e' _ _ _ _) ?_) ⟨by dsimp only; omega, by simp; omega, vs, by rw [← hv, List.drop_drop], ?_⟩ (by dsimp only; omega) rfl
        · have hn1 : acc.length + 1 ≤ 9223372036854775807 := by omega
          have hn2 : (acc.length + 1) * 24 ≤ 140737488355328 := by omega
          have hn3 : (i : Int) ≤ ((i + k : Nat) : Int) := by omega
          have hn4 : ((i + k : Nat) : Int) ≤ ((r.length + e'.length : Nat) : Int) := by omega
          have hn5 : (rws (pieces z' acc)).length = acc.length := by simp [rws, pieces]
          have hcut : ((ints r).drop i) = (ints r).drop i := rfl
          have hpc : List.drop i (tkX (i + k) (ints r) e') = ints ((r.drop i).take k) := by
            rw [tkX_ints (by omega), ints_drop, List.drop_take, Nat.add_sub_cancel_left]
          simp only [Int.toNat_natCast, ints_len, hn5, condW_d]
          simp only [show (i : Int) < (r.length : Int) by omega, if_true]
          refine ⟨_, _, _, _, hs, ?_⟩
          have hi0 : (0 : Int) ≤ (i : Int) := by omega
          have hn6 : acc.length + (0 + 1) ≤ 9223372036854775807 := by omega
          have hn7 : (acc.length + (0 + 1)) * 24 ≤ 140737488355328 := by omega
          simp only [condW_d, hi0, hn3, hn6, hn7, if_true, Int.toNat_natCast, hpc]
          rw [if_pos (by simpa [ints_len] using hn4)]
          simp [pieces, rws_append, rws_cons, rws_nil]
        · rw [← hx3, List.append_assoc]; rfl) x hx
  have h5 : evP F (Go.Ab.W F) (JW F d70 []) d70 [] [1,1,1,0] [(0, iG z g e), (1, iS z' r e'), (5, .own true 33 1 []), (6, iI 0)] = _ := hl ([], 0) ⟨Nat.zero_le _, Nat.zero_le _, ts, by simpa using hts, by simp⟩
  simp [-Bool.exists_bool, h5]
/-! ### The program's: with a stack -/
end Go.Proofs.YtjhganbjbiihoaaDoor.Ab

/- Structures of a few things: what the reference's functions hand back. For every input; no condition. -/
set_option linter.unusedVariables false
set_option linter.unusedSimpArgs false
set_option maxRecDepth 100000
namespace Go.Proofs.YtjhganbjbiihoaaDoor.Ab
open Go Go.Ab Go.Qu Go.Proofs
attribute [local simp] and_assoc
def hashS (h a : Int) : Int := IntKind.wrap .u64 (IntKind.wrap .u64 (IntKind.wrap .u64 (h * 5) + IntKind.wrap .u64 a) + 3)
def hashF (h : Int) (l : List Int) : Int := l.foldl hashS h
def hash0 (c : Int) : Int := IntKind.wrap .u64 (IntKind.wrap .i64 (IntKind.wrap .i64 (c * 7) + 1))
def andI (w m : Int) : Int := IntKind.wrap .i64 ((BitVec.toNat (BitVec.ofInt (IntKind.bits .i64) w &&& BitVec.ofInt (IntKind.bits .i64) m) : Nat) : Int)
def lookI (ns : List Int) (c : Int) (l : List Int) : Int := IntKind.wrap .i64 (Int.tmod (hashF (hash0 c) l) (IntKind.wrap .u64 (ns.length : Int)))
def lookV (ns : List Int) (c : Int) (l : List Int) : Int := if ns = [] then 0 else andI (gi ns (lookI ns c l).toNat) 255
/-! ### Values -/
def tvM (sz : Int) (ns : List Int) (c : Int) (l : List Int) : Int := Int.tmod (lookV ns c l) sz
section
variable {g : List Sym} (hg : SigOk g) {sz : Int} (hs : 1 ≤ sz) (z zn ze : Bool) {ns : List Int} (hns : Len ns) (e en ee : List D) {env : List Int} (he : env.length = 24)
include hg hs hns he
def pvM (ns : List Int) (c : Int) (l : List Int) : Bool := decide (andI (lookV ns c l) 1 = 1)
def qvM (ns : List Int) (l : List Int) : Bool := decide (andI (lookV ns 101 l) 2 = 2)
end
end Go.Proofs.YtjhganbjbiihoaaDoor.Ab

/- Structures of a few things: clauses in them. For every input; no condition. -/
set_option linter.unusedVariables false
set_option linter.unusedSimpArgs false
set_option maxRecDepth 100000
namespace Go.Proofs.YtjhganbjbiihoaaDoor.Ab
open Go Go.Ab Go.Qu Go.Proofs
attribute [local simp] and_assoc
abbrev hM (g : List Sym) (sz : Int) (ns : List Int) (c : CC) (env : Int → Int) : Bool := hereH g (tvM sz ns) (pvM ns) (qvM ns) c env
section
variable {g : List Sym} (hg : SigOk g) {sz : Int} (hs : 1 ≤ sz) (z zn ze : Bool) {ns : List Int} (hns : Len ns) (e en ee : List D) {env : List Int} (he : env.length = 24)
include hg hs hns he
end
end Go.Proofs.YtjhganbjbiihoaaDoor.Ab

/- Structures of a few things: whether a clause holds in them, whatever stands for its variables. For every input; no condition. -/
set_option linter.unusedVariables false
set_option linter.unusedSimpArgs false
set_option maxRecDepth 100000
namespace Go.Proofs.YtjhganbjbiihoaaDoor.Ab
open Go Go.Ab Go.Qu Go.Proofs
attribute [local simp] and_assoc
/-- Things, as they stand for variables. -/
structure EnvOk (sz : Int) (env : List Int) : Prop where
  len : env.length = 24
  rng : ∀ j, j < 24 → 0 ≤ gi env j ∧ gi env j < sz
theorem w_rvo {g : List Sym} {c : Cl} (hc : clB g c = true) : C 37 [iC c] = some (.own (varsC c.c.rows).isEmpty 3 1 (ints (varsC c.c.rows)), [iC c]) := by
  have hk := clOk.1 ((clB_c g c).symm.trans hc)
  have n1 : c.ls.length ≤ 5 := by have := hk.l5; simpa [Cl.c] using this
  have n2 : c.ts.length ≤ 3 := by have := hk.t3; simpa [Cl.c] using this
  have n3 : c.cs.length ≤ 3 := by have := hk.c3; simpa [Cl.c] using this
  have hrr : (rowsOf c).map (·.l) = c.c.rows := by
    simp [rowsOf, CC.rows, Cl.c, List.map_append, List.map_map, Function.comp_def, LitR.c]
  have hnr : (rowsOf c).length ≤ 11 := by simp [rowsOf]; omega
  have h49 : ∀ r ∈ rowsOf c, r.l.length ≤ 49 := fun r hr => by
    have hm : r.l ∈ c.c.rows := by rw [← hrr]; exact List.mem_map_of_mem hr
    simp only [CC.rows, List.mem_append, List.mem_map] at hm
    rcases hm with (⟨l, hl, e⟩ | hm) | ⟨l, hl, e⟩
    · have := (atom_codes (hk.la l hl)).1; rw [e] at this; exact this
    · obtain ⟨k, hk2⟩ := hk.tr
      have := rowB_len (hk2 _ hm).1; omega
    · have := (atom_codes (hk.ca l hl)).1; rw [e] at this; exact this
  have hfl : ∀ (rs : List Row), (∀ r ∈ rs, r.l.length ≤ 49) → (rs.flatMap (·.l)).length ≤ 49 * rs.length := by
    intro rs
    induction rs with
    | nil => intro _; simp
    | cons r rs ih =>
      intro h
      have h1 := h r (by simp)
      have h2 := ih (fun x hx => h x (by simp [hx]))
      rw [List.flatMap_cons, List.length_append, List.length_cons]; omega
  refine wfn (lk := []) rfl rfl (fnW_way (q37 _ _ c.lz (lits c.ls) c.le c.tz (rws c.ts) c.te c.cz (lits c.cs) c.ce _) ?_)
  refine ⟨_, _, _, w_rrows (c := c) (by omega) (by omega) (by omega), ?_⟩
  have h1 := fun x hx => blk_fun (F := F) (d := d37) (lk := []) (p := [1,1,1,0,1,0,0]) (p0 := [1,1,1,0,1]) (id := 0) (by kernel_rfl) (st := fun (x : List Int × Nat) => [(3, .own x.1.isEmpty 3 1 (ints x.1)), (4, .own (rowsOf c).isEmpty 33 1 (rws (rowsOf c))), (5, iI x.2)]) (I := fun x => x.2 ≤ (rowsOf c).length ∧ x.1.length ≤ 49 * x.2 ∧ x.1 ++ ((rowsOf c).drop x.2).flatMap (·.l) = (rowsOf c).flatMap (·.l)) (μ := fun x => (rowsOf c).length - x.2)
    (res := fun x => .norm [(3, .own ((rowsOf c).flatMap (·.l)).isEmpty 3 1 (ints ((rowsOf c).flatMap (·.l)))), (4, .own (rowsOf c).isEmpty 33 1 (rws (rowsOf c))), (5, iI (rowsOf c).length)])
    (fun x hx => by
      obtain ⟨acc, i⟩ := x
      obtain ⟨x1, x2, x3⟩ := hx
      dsimp only at x1 x2 x3
      by_cases hi : i < (rowsOf c).length
      · obtain ⟨r, hr⟩ := at_lt hi
        have hd : (rowsOf c).drop i = r :: (rowsOf c).drop (i + 1) := by
          rw [List.drop_eq_getElem_cons hi]
          rw [List.getElem?_eq_getElem hi] at hr
          cases hr; rfl
        have hrl := h49 r (List.mem_of_getElem? hr)
        rw [hd, List.flatMap_cons] at x3
        refine .go (acc ++ r.l, i + 1) (wpQ_way (q37_l0a _ _ acc.isEmpty (ints acc) (rowsOf c).isEmpty (rws (rowsOf c)) i _) ?_) ⟨hi, by simp; omega, by dsimp only; rw [List.append_assoc]; exact x3⟩ (by dsimp only; omega) rfl
        refine condW_t (by rw [rws_len]; exact decide_eq_true (by omega)) (condW_t (by simp) ⟨_, rws_at hr, _, _, _, rws_at hr, condW_t (by rw [ints_len, ints_len]; exact decide_eq_true (by omega)) (condW_t (by rw [ints_len, ints_len]; exact decide_eq_true (by omega)) ?_)⟩)
        rw [wr1 hi (by omega)]
        dsimp only
        rw [ints_append]
        have hem : (acc ++ r.l).isEmpty = (acc.isEmpty && (ints r.l).isEmpty) := by
          cases acc <;> cases r.l <;> simp [ints]
        rw [hem]
      · have e0 : i = (rowsOf c).length := by omega
        subst e0
        refine .stop (.exit 0 [(3, .own acc.isEmpty 3 1 (ints acc)), (4, .own (rowsOf c).isEmpty 33 1 (rws (rowsOf c))), (5, iI (rowsOf c).length)]) (wpQ_way (q37_l0a _ _ acc.isEmpty (ints acc) (rowsOf c).isEmpty (rws (rowsOf c)) (rowsOf c).length _) (condW_f (by rw [rws_len]; simp) rfl)) rfl ?_
        rw [List.drop_length, List.flatMap_nil, List.append_nil] at x3
        rw [x3]; rfl) x hx
  have h2 := h1 ([], 0) ⟨Nat.zero_le _, by simp, rfl⟩
  dsimp only at h2
  have hff : (rowsOf c).flatMap (·.l) = c.c.rows.flatten := by rw [← hrr, List.flatMap_def]
  have hvc : varsC c.c.rows = varsM c.c.rows.flatten := vars_flat (fun r hr x hx => (cl_codes hk r hr x hx).1)
  have hl := hfl (rowsOf c) h49
  have h3 := w_varsof (a := (rowsOf c).flatMap (·.l)) (by unfold Len; omega) ((rowsOf c).flatMap (·.l)).isEmpty []
  rw [hvc, ← hff]
  exact ⟨_, _, _, _, _, h2, _, _, _, h3, rfl⟩
section
variable {g : List Sym} (hg : SigOk g) {sz : Int} (hs : 1 ≤ sz ∧ sz ≤ 3) (z zn : Bool) {ns : List Int} (hns : Len ns) (e en : List D)
include hg hs hns
end
end Go.Proofs.YtjhganbjbiihoaaDoor.Ab
