/- Tables of facts: what may be one, where a fact stands. Plain lists; no condition. -/
import Derived.Test.YtollbcdhmnnjeaaDoorSimpCuts0
import Derived.Test.YtollbcdhmnnjeaaDoorSimpCuts1
import Derived.Test.YtollbcdhmnnjeaaDoorSimpCuts2
import Derived.Test.YtollbcdhmnnjeaaDoorSimpCuts3
import Derived.Test.YtollbcdhmnnjeaaDoorSimpCuts4
import Derived.Test.YtollbcdhmnnjeaaDoorSimpCuts5
import Derived.Test.YtollbcdhmnnjeaaDoorSimpCuts6
import Derived.Test.YtollbcdhmnnjeaaDoorSimpCuts7
import Derived.Test.YtollbcdhmnnjeaaDoorSimpCuts8
import Derived.Test.YtollbcdhmnnjeaaDoorSimpCuts9
import Derived.Test.YtollbcdhmnnjeaaDoorSimpCuts10
import Derived.Test.YtollbcdhmnnjeaaDoorSimpCuts11
set_option linter.unusedVariables false
set_option linter.unusedSimpArgs false
namespace Go.Qu
open Go Go.Ab

def hashF (h : Int) : List Int → Int
  | [] => h
  | c :: a => hashF ((h * 31 + c + 1) % 1009) a
def hashM (a : List Int) : Int := hashF 7 a
theorem hashF_lt : ∀ (a : List Int) (h : Int), 0 ≤ h → h < 1009 → 0 ≤ hashF h a ∧ hashF h a < 1009
  | [], h, h1, h2 => ⟨h1, h2⟩
  | c :: a, h, h1, h2 => hashF_lt a _ (Int.emod_nonneg _ (by omega)) (Int.emod_lt_of_pos _ (by omega))
theorem hashM_lt (a : List Int) : 0 ≤ hashM a ∧ hashM a < 1009 := hashF_lt a 7 (by omega) (by omega)
/-- Codes that are none of variables, and not great. -/
def Small (a : List Int) : Prop := ∀ c ∈ a, 0 ≤ c ∧ c ≤ 1000000
def factB (g : List Sym) (a : List Int) : Bool := sigB g && (atomB g a && a.all fun c => decide (0 ≤ c))
theorem gi_mem {a : List Int} {i : Nat} (h : i < a.length) : gi a i ∈ a := by
  simp only [gi, List.getD_eq_getElem?_getD, List.getElem?_eq_getElem h, Option.getD_some]; exact List.getElem_mem h
theorem lenN_codes {g : List Sym} : ∀ {r : List Int} {n k : Nat}, lenN g r n = some k → ∀ c ∈ r.take k, (arOf g c).isSome = true
  | r, 0, k, h, c, hc => by cases r <;> (simp [lenN] at h; subst h; simp at hc)
  | [], n + 1, k, h, c, hc => by simp [lenN] at h
  | x :: r, n + 1, k, h, c, hc => by
    unfold lenN at h
    split at h
    · cases h
    · rename_i a ha
      obtain ⟨m, hm, rfl⟩ := Option.map_eq_some_iff.1 h
      rw [List.take_succ_cons] at hc
      rcases List.mem_cons.1 hc with rfl | hc
      · rw [ha]; rfl
      · exact lenN_codes hm c hc
theorem parts_codes {g : List Sym} : ∀ (n : Nat) (r : List Int) {ts : List (List Int)}, r.length ≤ n → parts g r = some ts → ∀ c ∈ r, (arOf g c).isSome = true
  | n, [], ts, hn, h, c, hc => by simp at hc
  | 0, x :: r, ts, hn, h, c, hc => by simp at hn
  | n + 1, x :: r, ts, hn, h, c, hc => by
    cases hl : lenN g (x :: r) 1 with
    | none => rw [parts_none (by simp) hl] at h; cases h
    | some k =>
      rw [parts_some (by simp) hl] at h
      obtain ⟨us, h1, rfl⟩ := Option.map_eq_some_iff.1 h
      have h2 := lenN_le hl
      have hsplit : c ∈ (x :: r).take k ∨ c ∈ (x :: r).drop k := by
        rw [← List.mem_append, List.take_append_drop]; exact hc
      rcases hsplit with hc | hc
      · exact lenN_codes hl c hc
      · exact parts_codes n _ (by simp at hn ⊢; omega) h1 c hc
theorem arOf_lt {g : List Sym} {c : Int} (h : (arOf g c).isSome = true) : -24 ≤ c ∧ c < g.length := by
  unfold arOf at h
  split at h
  · split at h
    · omega
    · cases h
  · split at h
    · cases h
    · rename_i s hs
      have := lt_at hs
      omega
/-- The codes of an atom. -/
theorem atom_codes {g : List Sym} {a : List Int} (h : atomB g a = true) : a.length ≤ 49 ∧ (∀ c ∈ a, -24 ≤ c ∧ c < g.length) ∧ g.length ≤ 20 := by
  cases a with
  | nil => simp [atomB] at h
  | cons p r =>
    simp only [atomB] at h
    split at h
    · cases h
    · rename_i hp
      split at h
      · cases h
      · rename_i s hs
        simp only [Bool.and_eq_true] at h
        obtain ⟨⟨h1, h2⟩, h3⟩ := h
        have hl := lt_at hs
        have hg := sigOk h2
        unfold rowP at h3
        by_cases hr : r.length ≤ 48
        · rw [if_pos hr] at h3
          cases hps : parts g r with
          | none => rw [hps] at h3; cases h3
          | some ts =>
            refine ⟨by simp; omega, fun c hc => ?_, hg.hi⟩
            rcases List.mem_cons.1 hc with rfl | hc
            · omega
            · exact arOf_lt (parts_codes _ r (Nat.le_refl _) hps c hc)
        · rw [if_neg hr] at h3; cases h3
theorem fact_small {g : List Sym} {a : List Int} (h : factB g a = true) : Small a ∧ Len a := by
  simp only [factB, Bool.and_eq_true, List.all_eq_true, decide_eq_true_eq] at h
  obtain ⟨h1, h2, h3⟩ := h
  have h4 := atom_codes h2
  exact ⟨fun c hc => ⟨h3 c hc, by have := (h4.2.1 c hc).2; omega⟩, by unfold Len; omega⟩
theorem varsFrom_nil (a : List Int) : ∀ (k v : Nat), varsFrom a k v = [] ↔ ∀ j, v ≤ j → j < v + k → ¬ (-1 - (j : Int)) ∈ a
  | 0, v => by simp [varsFrom]; intro j; omega
  | k + 1, v => by
    unfold varsFrom
    cases hc : a.contains (-1 - (v : Int)) with
    | true =>
      rw [List.contains_eq_mem, decide_eq_true_iff] at hc
      simp only [if_true]
      constructor
      · intro h; cases h
      · intro h; exact absurd hc (h v (Nat.le_refl _) (by omega))
    | false =>
      rw [List.contains_eq_mem, decide_eq_false_iff_not] at hc
      simp only [Bool.false_eq_true, if_false]
      rw [varsFrom_nil a k (v + 1)]
      constructor
      · intro h j h1 h2
        by_cases hj : j = v
        · subst hj; exact hc
        · exact h j (by omega) (by omega)
      · intro h j h1 h2
        exact h j (by omega) (by omega)
theorem vars_none {g : List Sym} {a : List Int} (h : atomB g a = true) : ((varsM a).length = 0) ↔ a.all (fun c => decide (0 ≤ c)) = true := by
  have h4 := atom_codes h
  rw [List.length_eq_zero_iff, varsM, varsFrom_nil]
  simp only [List.all_eq_true, decide_eq_true_eq]
  constructor
  · intro h5 c hc
    have h6 := h4.2.1 c hc
    by_cases h7 : 0 ≤ c
    · exact h7
    · have := h5 (-1 - c).toNat (Nat.zero_le _) (by omega)
      rw [show (-1 - (((-1 - c).toNat : Nat) : Int)) = c by omega] at this
      exact absurd hc this
  · intro h5 j _ hj hm
    have := h5 _ hm
    omega
/-! ### Where a fact stands -/
def probe (h k : Nat) : Nat := (h + k) % 32
def slotF (sl : List Int) (fs : List (List Int)) (a : List Int) (h : Nat) : Nat → Nat → Int
  | 0, _ => -1
  | n + 1, k => if gi sl (probe h k) = -1 then -1 else if 0 ≤ gi sl (probe h k) ∧ fs[(gi sl (probe h k)).toNat]? = some a then (probe h k : Int) else slotF sl fs a h n (k + 1)
def slotM (sl : List Int) (fs : List (List Int)) (a : List Int) : Int := slotF sl fs a (hashM a).toNat 32 0
/-- Slots that fit so many facts. -/
def slotsF (n : Nat) : List Int → List Bool → Nat → Bool
  | [], _, k => k == n
  | x :: r, seen, k => if x = -1 ∨ x = -2 then slotsF n r seen k else if x < 0 ∨ (n : Int) ≤ x ∨ seen[x.toNat]? = some true then false else slotsF n r (seen.set x.toNat true) (k + 1)
def slotsB (sl : List Int) (n : Nat) : Bool := slotsF n sl (List.replicate n false) 0
def tblB (g : List Sym) (sl : List Int) (fs : List (List Int)) : Bool :=
  sigB g && (decide (sl.length = 32) && (decide (fs.length ≤ 24) && (slotsB sl fs.length && (fs.all (factB g) && (List.range fs.length).all fun i => match fs[i]? with | some a => decide (0 ≤ slotM sl fs a) && (gi sl (slotM sl fs a).toNat == (i : Int)) | none => true))))
/-! ### The reference's words -/
def whereF (a : List Int) : List (List Int) → Nat → Int
  | [], _ => -1
  | b :: fs, i => if b = a then (i : Int) else whereF a fs (i + 1)
def whereM (fs : List (List Int)) (a : List Int) : Int := whereF a fs 0
def lastF (x : Int) : List Int → Nat → Int → Int
  | [], _, at_ => at_
  | y :: sl, i, at_ => lastF x sl (i + 1) (if y = x then (i : Int) else at_)
def lastM (sl : List Int) (x : Int) : Int := lastF x sl 0 (-1)
/-- From a slot on: is none free ahead of another one? -/
def roadF (sl : List Int) (at_ : Nat) : Nat → Nat → Bool
  | 0, _ => true
  | n + 1, i => if i = at_ then true else if gi sl i = -1 then false else roadF sl at_ n ((i + 1) % 32)
def takenF : List Int → Nat → Nat
  | [], k => k
  | x :: sl, k => takenF sl (if 0 ≤ x then k + 1 else k)
def eachB (g : List Sym) (sl : List Int) (fs : List (List Int)) (k : Nat) : Bool := match fs[k]? with
  | some a => factB g a && ((whereM fs a == (k : Int)) && (decide (0 ≤ lastM sl k) && roadF sl (lastM sl k).toNat 32 ((hashM a).toNat % 32)))
  | none => true
def rtblB (g : List Sym) (sl : List Int) (fs : List (List Int)) : Bool :=
  sigB g && (decide (sl.length = 32) && (decide (fs.length ≤ 24) && (sl.all (fun x => decide (-2 ≤ x) && decide (x < fs.length)) && ((takenF sl 0 == fs.length) && (List.range fs.length).all (eachB g sl fs)))))

/-! ### For the walks -/
abbrev iT (zs : Bool) (sl : List Int) (es : List D) (zf : Bool) (fs : List Row) (ef : List D) : IV := .d (.agg [.sl 1 zs (ints sl) es, .sl 1 zf (rws fs) ef])
def fl (fs : List Row) : List (List Int) := fs.map (·.l)
theorem fl_len (fs : List Row) : (fl fs).length = fs.length := by simp [fl]
theorem fl_at {fs : List Row} {i : Nat} {r : Row} (h : fs[i]? = some r) : (fl fs)[i]? = some r.l := by simp [fl, h]
def bls (l : List Bool) : List D := l.map D.bool
theorem bls_len (l : List Bool) : (bls l).length = l.length := by simp [bls]
theorem bls_at {l : List Bool} {i : Nat} {b : Bool} (h : l[i]? = some b) : (bls l)[i]? = some (.bool b) := by simp [bls, h]
theorem bls_set (l : List Bool) (i : Nat) (b : Bool) : (bls l).set i (.bool b) = bls (l.set i b) := by simp [bls, List.map_set]
theorem bls_rep (n : Nat) : List.replicate n (D.bool false) = bls (List.replicate n false) := by simp [bls]
theorem slotF_lt (sl : List Int) (fs : List (List Int)) (a : List Int) (h : Nat) : ∀ n k, slotF sl fs a h n k = -1 ∨ (0 ≤ slotF sl fs a h n k ∧ slotF sl fs a h n k < 32)
  | 0, k => .inl rfl
  | n + 1, k => by
    unfold slotF
    split
    · exact .inl rfl
    · split
      · right; unfold probe; omega
      · exact slotF_lt sl fs a h n (k + 1)
theorem slotM_lt (sl : List Int) (fs : List (List Int)) (a : List Int) : slotM sl fs a = -1 ∨ (0 ≤ slotM sl fs a ∧ slotM sl fs a < 32) := slotF_lt sl fs a _ 32 0
theorem slotsF_lt {n : Nat} : ∀ {sl : List Int} {seen : List Bool} {k : Nat}, slotsF n sl seen k = true → ∀ x ∈ sl, -2 ≤ x ∧ x < n
  | [], seen, k, h, x, hx => by simp at hx
  | y :: sl, seen, k, h, x, hx => by
    unfold slotsF at h
    split at h
    · rcases List.mem_cons.1 hx with rfl | hx
      · omega
      · exact slotsF_lt h x hx
    · split at h
      · cases h
      · rcases List.mem_cons.1 hx with rfl | hx
        · omega
        · exact slotsF_lt h x hx
theorem lastF_lt (x : Int) : ∀ (sl : List Int) (i : Nat) (at_ : Int), lastF x sl i at_ = at_ ∨ ((i : Int) ≤ lastF x sl i at_ ∧ lastF x sl i at_ < i + sl.length)
  | [], i, at_ => .inl rfl
  | y :: sl, i, at_ => by
    unfold lastF
    rcases lastF_lt x sl (i + 1) (if y = x then (i : Int) else at_) with h | h
    · rw [h]
      split
      · right; simp; omega
      · exact .inl rfl
    · right; simp; omega
theorem lastM_lt (sl : List Int) (x : Int) : lastM sl x = -1 ∨ (0 ≤ lastM sl x ∧ lastM sl x < sl.length) := by
  have := lastF_lt x sl 0 (-1)
  unfold lastM
  rcases this with h | h
  · exact .inl h
  · right; simpa using h
theorem roadF_more (sl : List Int) {at_ : Nat} (ha : at_ < 32) : ∀ (n i : Nat), i < 32 → (at_ + 32 - i) % 32 < n → roadF sl at_ n i = roadF sl at_ (n + 1) i
  | 0, i, hi, h => by omega
  | n + 1, i, hi, h => by
    by_cases he : i = at_
    · simp [roadF, he]
    · by_cases hf : gi sl i = -1
      · simp [roadF, he, hf]
      · have := roadF_more sl ha n ((i + 1) % 32) (Nat.mod_lt _ (by omega)) (by omega)
        rw [roadF, if_neg he, if_neg hf, this]
        conv => rhs; rw [roadF, if_neg he, if_neg hf]
theorem roadF_go (sl : List Int) {at_ i : Nat} (ha : at_ < 32) (hi : i < 32) (he : i ≠ at_) (hf : gi sl i ≠ -1) : roadF sl at_ 32 ((i + 1) % 32) = roadF sl at_ 32 i := by
  rw [← roadF_more sl ha 31 ((i + 1) % 32) (Nat.mod_lt _ (by omega)) (by omega)]
  conv => rhs; rw [roadF, if_neg he, if_neg hf]
end Go.Qu

/- Literals, clauses: what may be, what they weigh. Plain lists; no condition. -/
set_option linter.unusedVariables false
set_option linter.unusedSimpArgs false
namespace Go.Qu
open Go Go.Ab

structure LitR where
  neg : Bool
  r : Row
def LitR.d (l : LitR) : D := .agg [.bool l.neg, .sl 1 l.r.z (ints l.r.l) l.r.e]
def lits (ls : List LitR) : List D := ls.map LitR.d
abbrev iL (z : Bool) (ls : List LitR) (e : List D) : IV := .d (.sl 2 z (lits ls) e)
abbrev iLit (b : Bool) (z : Bool) (l : List Int) (e : List D) : IV := .d (.agg [.bool b, .sl 1 z (ints l) e])
theorem lits_len (l : List LitR) : (lits l).length = l.length := by simp [lits]
theorem lits_at {l : List LitR} {i : Nat} {s : LitR} (h : l[i]? = some s) : (lits l)[i]? = some (.agg [.bool s.neg, .sl 1 s.r.z (ints s.r.l) s.r.e]) := by simp [lits, h, LitR.d]
theorem lits_nil : lits [] = [] := rfl
theorem lits_cons (x : LitR) (l : List LitR) : lits (x :: l) = .agg [.bool x.neg, .sl 1 x.r.z (ints x.r.l) x.r.e] :: lits l := rfl
theorem lits_append (l m : List LitR) : lits (l ++ m) = lits l ++ lits m := by simp [lits]
/-- A clause as it lies in memory. -/
structure Cl where
  lz : Bool
  ls : List LitR
  le : List D
  tz : Bool
  ts : List Row
  te : List D
  cz : Bool
  cs : List LitR
  ce : List D
abbrev Cl.d (c : Cl) : D := .agg [.sl 2 c.lz (lits c.ls) c.le, .sl 1 c.tz (rws c.ts) c.te, .sl 2 c.cz (lits c.cs) c.ce]
abbrev iC (c : Cl) : IV := .d (.agg [.sl 2 c.lz (lits c.ls) c.le, .sl 1 c.tz (rws c.ts) c.te, .sl 2 c.cz (lits c.cs) c.ce])
/-! ### What may be -/
def litsB (g : List Sym) (ls : List LitR) : Bool := ls.all fun l => atomB g l.r.l
def lenL : List LitR → Nat
  | [] => 0
  | l :: ls => l.r.l.length + lenL ls
def lenR : List Row → Nat
  | [] => 0
  | r :: rs => r.l.length + lenR rs
def termsN (g : List Sym) (r : List Int) : Nat := (begsM g r).length
def rowsF (g : List Sym) (k : Nat) (ts : List Row) : Bool := ts.all fun r => rowB g r.l && (termsN g r.l == k)
def rowsB (g : List Sym) (ts : List Row) : Bool := match ts with
  | [] => true
  | r :: _ => rowsF g (termsN g r.l) ts
def clB (g : List Sym) (c : Cl) : Bool := sigB g && (decide (c.ls.length ≤ 5) && (decide (c.ts.length ≤ 3) && (decide (c.cs.length ≤ 3) && (litsB g c.ls && (rowsB g c.ts && (litsB g c.cs && decide (lenL c.ls + lenR c.ts + lenL c.cs ≤ 240)))))))
theorem lenL_le {g : List Sym} : ∀ {ls : List LitR}, litsB g ls = true → lenL ls ≤ 49 * ls.length
  | [], h => by simp [lenL]
  | l :: ls, h => by
    simp only [litsB, List.all_cons, Bool.and_eq_true] at h
    have h1 := (atom_codes h.1).1
    have h2 := lenL_le (ls := ls) h.2
    simp [lenL]; omega
theorem rowB_len {g : List Sym} {r : List Int} (h : rowB g r = true) : r.length ≤ 48 := by
  simp only [rowB, Bool.and_eq_true, rowP] at h
  by_cases h1 : r.length ≤ 48
  · exact h1
  · rw [if_neg h1] at h; simp at h
theorem lenR_le {g : List Sym} {k : Nat} : ∀ {ts : List Row}, rowsF g k ts = true → lenR ts ≤ 48 * ts.length
  | [], h => by simp [lenR]
  | r :: ts, h => by
    simp only [rowsF, List.all_cons, Bool.and_eq_true] at h
    have h1 := rowB_len h.1.1
    have h2 := lenR_le (ts := ts) (k := k) h.2
    simp [lenR]; omega
/-! ### What they weigh -/
def codeW (g : List Sym) (c : Int) : Int := if c < 0 then 1 else match g[c.toNat]? with | some s => s.wt | none => 0
def sumW (g : List Sym) : List Int → Int
  | [] => 0
  | c :: r => codeW g c + sumW g r
/-- Codes that a signature knows. -/
def Known (g : List Sym) (r : List Int) : Prop := ∀ c ∈ r, c < g.length
theorem atom_known {g : List Sym} {a : List Int} (h : atomB g a = true) : Known g a := fun c hc => ((atom_codes h).2.1 c hc).2
theorem codeW_le {g : List Sym} (hg : SigOk g) (c : Int) (h : c < g.length) : 1 ≤ codeW g c ∧ codeW g c ≤ 20 := by
  unfold codeW
  split
  · omega
  · obtain ⟨s, hs⟩ := at_lt (l := g) (i := c.toNat) (by omega)
    rw [hs]
    have := hg.nums _ _ hs
    dsimp only; omega
theorem sumW_le {g : List Sym} (hg : SigOk g) : ∀ (r : List Int), Known g r → (r.length : Int) ≤ sumW g r ∧ sumW g r ≤ 20 * r.length
  | [], h => by simp [sumW]
  | c :: r, h => by
    have h1 := codeW_le hg c (h c (by simp))
    have h2 := sumW_le hg r (fun x hx => h x (by simp [hx]))
    simp only [sumW, List.length_cons]; omega
/-- The parts of a clause's point. -/
def ptF (g : List Sym) : List LitR → Int → Int → Int × Int
  | [], a, b => (a, b)
  | l :: ls, a, b => if l.neg then ptF g ls a (if sumW g l.r.l > b then sumW g l.r.l else b) else ptF g ls (if sumW g l.r.l > a then sumW g l.r.l else a) b
def ptM (g : List Sym) (c : Cl) : Int × Int := ptF g c.ls 0 0
end Go.Qu

/- Rows of terms: how deep they are, which variables they have, what joining and cutting does. Plain lists, no program in sight; no condition. -/
set_option linter.unusedVariables false
set_option linter.unusedSimpArgs false
namespace Go.Qu
open Go Go.Ab
theorem lenN_cons {g : List Sym} {c : Int} {r : List Int} {n a : Nat} (ha : arOf g c = some a) : lenN g (c :: r) (n + 1) = (lenN g r (n + a)).map (· + 1) := by
  simp [lenN, ha]
theorem lenN_some {g : List Sym} {c : Int} {r : List Int} {n k : Nat} (h : lenN g (c :: r) (n + 1) = some k) : ∃ a m, arOf g c = some a ∧ lenN g r (n + a) = some m ∧ k = m + 1 := by
  unfold lenN at h
  split at h
  · cases h
  · rename_i a ha
    obtain ⟨m, hm, rfl⟩ := Option.map_eq_some_iff.1 h
    exact ⟨a, m, ha, hm, rfl⟩
theorem lenN_cut {g : List Sym} : ∀ {r : List Int} {n k : Nat}, lenN g r n = some k → ∀ j, j < k → lenN g (r.take j) n = none
  | r, 0, k, h, j, hj => by cases r <;> (simp [lenN] at h; omega)
  | [], n + 1, k, h, j, hj => by simp [lenN] at h
  | c :: r, n + 1, k, h, 0, hj => by simp [lenN]
  | c :: r, n + 1, k, h, j + 1, hj => by
    obtain ⟨a, m, ha, hm, rfl⟩ := lenN_some h
    rw [List.take_succ_cons, lenN_cons ha, lenN_cut hm j (by omega)]; rfl
theorem lenN_app {g : List Sym} : ∀ {r : List Int} {n k : Nat} (s : List Int), lenN g r n = some k → lenN g (r ++ s) n = some k
  | r, 0, k, s, h => by
    have e : k = 0 := by cases r <;> simp [lenN] at h <;> omega
    subst e
    cases r ++ s <;> simp [lenN]
  | [], n + 1, k, s, h => by simp [lenN] at h
  | c :: r, n + 1, k, s, h => by
    obtain ⟨a, m, ha, hm, rfl⟩ := lenN_some h
    rw [List.cons_append, lenN_cons ha, lenN_app s hm]; rfl
theorem lenN_take {g : List Sym} : ∀ {r : List Int} {n k : Nat}, lenN g r n = some k → lenN g (r.take k) n = some k
  | r, 0, k, h => by
    have e : k = 0 := by cases r <;> simp [lenN] at h <;> omega
    subst e
    cases r <;> simp [lenN]
  | [], n + 1, k, h => by simp [lenN] at h
  | c :: r, n + 1, k, h => by
    obtain ⟨a, m, ha, hm, rfl⟩ := lenN_some h
    rw [List.take_succ_cons, lenN_cons ha, lenN_take hm]; rfl
theorem lenN_split {g : List Sym} : ∀ {r : List Int} {n k : Nat} (m : Nat), lenN g r n = some k → lenN g r (n + m) = (lenN g (r.drop k) m).map (k + ·)
  | r, 0, k, m, h => by
    have e : k = 0 := by cases r <;> simp [lenN] at h <;> omega
    subst e
    simp
  | [], n + 1, k, m, h => by simp [lenN] at h
  | c :: r, n + 1, k, m, h => by
    obtain ⟨a, j, ha, hm, rfl⟩ := lenN_some h
    rw [show n + 1 + m = (n + m) + 1 by omega, lenN_cons ha, show n + m + a = (n + a) + m by omega, lenN_split m hm, List.drop_succ_cons]
    cases lenN g (r.drop j) m <;> simp; omega
theorem lenN_first {g : List Sym} {r : List Int} {n k : Nat} (h : lenN g r (n + 1) = some k) : ∃ k1 k2, lenN g r 1 = some k1 ∧ lenN g (r.drop k1) n = some k2 ∧ k = k1 + k2 := by
  have : ∃ k1, lenN g r 1 = some k1 := by
    have hgen : ∀ (r : List Int) (i j : Nat) {k : Nat}, lenN g r (i + j) = some k → ∃ k1, lenN g r i = some k1 := by
      intro r
      induction r with
      | nil =>
        intro i j k h
        cases i with
        | zero => exact ⟨0, rfl⟩
        | succ i => rw [show i + 1 + j = (i + j) + 1 by omega] at h; simp [lenN] at h
      | cons c r ih =>
        intro i j k h
        cases i with
        | zero => exact ⟨0, rfl⟩
        | succ i =>
          rw [show i + 1 + j = (i + j) + 1 by omega] at h
          obtain ⟨a, m, ha, hm, rfl⟩ := lenN_some h
          rw [show i + j + a = (i + a) + j by omega] at hm
          obtain ⟨k1, hk⟩ := ih (i + a) j hm
          exact ⟨k1 + 1, by rw [lenN_cons ha, hk]; rfl⟩
    exact hgen r 1 n (by rw [Nat.add_comm]; exact h)
  obtain ⟨k1, h1⟩ := this
  have h2 := lenN_split n h1
  rw [Nat.add_comm 1 n, h] at h2
  cases h3 : lenN g (r.drop k1) n with
  | none => rw [h3] at h2; cases h2
  | some k2 => rw [h3] at h2; simp at h2; exact ⟨k1, k2, h1, h3, h2⟩
/-! ### Rows -/
theorem parts_one {g : List Sym} {r : List Int} {k : Nat} (h : lenN g r 1 = some k) : parts g (r.take k) = some [r.take k] := by
  have hle := lenN_le h
  have hne : r.take k ≠ [] := by
    intro e
    have := congrArg List.length e
    rw [List.length_take] at this; simp only [List.length_nil] at this; omega
  rw [parts_some hne (lenN_take h)]
  have e1 : (r.take k).drop k = [] := List.drop_of_length_le (by simp; omega)
  have e2 : (r.take k).take k = r.take k := List.take_of_length_le (by simp; omega)
  rw [e1, e2, parts_nil]; rfl
/-- A row begins with a term, and the others follow. -/
theorem parts_cases {g : List Sym} {r : List Int} {ts : List (List Int)} (h : parts g r = some ts) : (r = [] ∧ ts = []) ∨ ∃ k us, lenN g r 1 = some k ∧ parts g (r.drop k) = some us ∧ ts = r.take k :: us ∧ r ≠ [] := by
  by_cases hr : r = []
  · subst hr; rw [parts_nil] at h; cases h; exact Or.inl ⟨rfl, rfl⟩
  · cases hl : lenN g r 1 with
    | none => rw [parts_none hr hl] at h; cases h
    | some k =>
      rw [parts_some hr hl] at h
      obtain ⟨us, h1, rfl⟩ := Option.map_eq_some_iff.1 h
      exact Or.inr ⟨k, us, rfl, h1, rfl, hr⟩
theorem parts_app {g : List Sym} : ∀ (n : Nat) {a b : List Int} {ts us : List (List Int)}, a.length ≤ n → parts g a = some ts → parts g b = some us → parts g (a ++ b) = some (ts ++ us)
  | n, a, b, ts, us, hn, ha, hb => by
    rcases parts_cases ha with ⟨rfl, rfl⟩ | ⟨k, vs, hl, hv, rfl, hne⟩
    · simpa using hb
    · have hle := lenN_le hl
      match n, hn with
      | 0, hn => exact absurd (List.length_eq_zero_iff.1 (Nat.le_zero.1 hn)) hne
      | n + 1, hn =>
        have h1 := parts_app n (a := a.drop k) (b := b) (by simp; omega) hv hb
        rw [parts_some (by simp [hne]) (lenN_app b hl), List.drop_append_of_le_length hle.1, h1, List.take_append_of_le_length hle.1]
        rfl
theorem parts_join {g : List Sym} {a b : List Int} {ts us : List (List Int)} (ha : parts g a = some ts) (hb : parts g b = some us) : parts g (a ++ b) = some (ts ++ us) := parts_app _ (Nat.le_refl _) ha hb
theorem parts_lenN {g : List Sym} : ∀ {n : Nat} {r : List Int} {k : Nat}, lenN g r n = some k → ∃ ts, parts g (r.take k) = some ts ∧ ts.length = n
  | 0, r, k, h => by
    have e : k = 0 := by cases r <;> simp [lenN] at h <;> omega
    subst e
    exact ⟨[], by simp [parts_nil], rfl⟩
  | n + 1, r, k, h => by
    obtain ⟨k1, k2, h1, h2, rfl⟩ := lenN_first h
    obtain ⟨us, h3, h4⟩ := parts_lenN h2
    refine ⟨r.take k1 :: us, ?_, by simp [h4]⟩
    rw [List.take_add]
    exact parts_join (parts_one h1) h3
/-- What stands behind a term's first code is a row. -/
theorem parts_tail {g : List Sym} {r : List Int} {k : Nat} (h : lenN g r 1 = some k) : ∃ ts, parts g (r.take k).tail = some ts := by
  cases r with
  | nil => simp [lenN] at h
  | cons c r =>
    obtain ⟨a, m, ha, hm, rfl⟩ := lenN_some h
    obtain ⟨ts, h1, _⟩ := parts_lenN hm
    exact ⟨ts, by simpa using h1⟩
/-- The last code is taken off. -/
theorem parts_cut {g : List Sym} : ∀ (n : Nat) {r : List Int} {us : List (List Int)} {t : List Int}, r.length ≤ n → parts g r = some (us ++ [t]) → parts g r.dropLast = if t.length = 1 then some us else none
  | n, r, us, t, hn, h => by
    rcases parts_cases h with ⟨rfl, h1⟩ | ⟨k, vs, hl, hv, he, hne⟩
    · simp at h1
    · have hle := lenN_le hl
      cases us with
      | nil =>
        simp at he
        obtain ⟨rfl, rfl⟩ := he
        have hk : r.length = k := by
          have := (parts_lens _ _ (Nat.le_refl _) hv).2
          simp at this; omega
        by_cases h1 : k = 1
        · have e1 : r.dropLast = [] := by rw [List.dropLast_eq_take]; simp; omega
          rw [if_pos (by simp; omega), e1, parts_nil]
        · have e1 : r.dropLast ≠ [] := by intro e; have := congrArg List.length e; simp at this; omega
          rw [if_neg (by simp; omega), parts_none e1]
          rw [List.dropLast_eq_take]
          exact lenN_cut hl _ (by omega)
      | cons u us =>
        simp at he
        obtain ⟨rfl, rfl⟩ := he
        match n, hn with
        | 0, hn => exact absurd (List.length_eq_zero_iff.1 (Nat.le_zero.1 hn)) hne
        | n + 1, hn =>
          have h1 := parts_cut n (r := r.drop k) (by simp; omega) hv
          have h2 : r.drop k ≠ [] := by intro e; rw [e, parts_nil] at hv; simp at hv
          have h3 : k < r.length := by
            have := List.length_pos_iff.2 h2; simp at this; omega
          have e1 : r.dropLast = r.take k ++ (r.drop k).dropLast := by
            rw [List.dropLast_eq_take, List.dropLast_eq_take, List.length_drop, ← List.take_add]
            congr 1; omega
          have e0 : r.take k ≠ [] := by intro e; have := congrArg List.length e; rw [List.length_take] at this; simp only [List.length_nil] at this; omega
          have hl2 : lenN g (r.take k ++ (r.drop k).dropLast) 1 = some k := lenN_app _ (lenN_take hl)
          rw [e1, parts_some (by simp [e0]) hl2, List.drop_append_of_le_length (by simp; omega), List.take_append_of_le_length (by simp; omega)]
          have e2 : (r.take k).drop k = [] := List.drop_of_length_le (by simp; omega)
          have e3 : (r.take k).take k = r.take k := List.take_of_length_le (by simp; omega)
          rw [e2, e3, List.nil_append, h1]
          split <;> rfl
theorem lenN_inner {g : List Sym} : ∀ {r : List Int} {n k : Nat}, lenN g r n = some k → ∀ i, i < k → ∃ j, lenN g (r.drop i) 1 = some j
  | r, 0, k, h, i, hi => by cases r <;> (simp [lenN] at h; omega)
  | [], n + 1, k, h, i, hi => by simp [lenN] at h
  | c :: r, n + 1, k, h, 0, hi => by
    obtain ⟨k1, k2, h1, _, _⟩ := lenN_first h
    exact ⟨k1, h1⟩
  | c :: r, n + 1, k, h, i + 1, hi => by
    obtain ⟨a, m, ha, hm, rfl⟩ := lenN_some h
    rw [List.drop_succ_cons]
    exact lenN_inner hm i (by omega)
theorem parts_all {g : List Sym} : ∀ (n : Nat) {r : List Int} {ts : List (List Int)}, r.length ≤ n → parts g r = some ts → lenN g r ts.length = some r.length
  | n, r, ts, hn, h => by
    rcases parts_cases h with ⟨rfl, rfl⟩ | ⟨k, vs, hl, hv, rfl, hne⟩
    · rfl
    · have hle := lenN_le hl
      match n, hn with
      | 0, hn => exact absurd (List.length_eq_zero_iff.1 (Nat.le_zero.1 hn)) hne
      | n + 1, hn =>
        have h1 := parts_all n (r := r.drop k) (by simp; omega) hv
        have h2 := lenN_split vs.length hl
        rw [h1] at h2
        rw [List.length_cons, Nat.add_comm, h2]
        simp; omega
/-- From each place of a row a term begins. -/
theorem parts_inner {g : List Sym} {r : List Int} {ts : List (List Int)} (h : parts g r = some ts) {i : Nat} (hi : i < r.length) : ∃ j, lenN g (r.drop i) 1 = some j :=
  lenN_inner (parts_all _ (Nat.le_refl _) h) i hi
theorem rowB_parts {g : List Sym} {r : List Int} (h : rowB g r = true) : sigB g = true ∧ r.length ≤ 48 ∧ ∃ ts, parts g r = some ts ∧ rowP g r = some ts := by
  simp only [rowB, Bool.and_eq_true, rowP] at h
  by_cases h1 : r.length ≤ 48
  · rw [if_pos h1] at h
    obtain ⟨ts, hts⟩ := Option.isSome_iff_exists.1 h.2
    exact ⟨h.1, h1, ts, hts, by simp [rowP, h1, hts]⟩
  · rw [if_neg h1] at h; simp at h
theorem rowB_of {g : List Sym} {r : List Int} {ts : List (List Int)} (hg : sigB g = true) (hr : r.length ≤ 48) (h : parts g r = some ts) : rowB g r = true := by
  simp [rowB, hg, rowP, hr, h]
theorem termsN_of {g : List Sym} {r : List Int} {ts : List (List Int)} (hg : sigB g = true) (hr : r.length ≤ 48) (h : parts g r = some ts) : termsN g r = ts.length := by
  simp [termsN, begsM, hg, rowP, hr, h, begs_len]
theorem termsN_no {g : List Sym} {r : List Int} (h : rowB g r = false) : termsN g r = 0 := by
  simp only [rowB, Bool.and_eq_false_iff] at h
  unfold termsN begsM
  rcases h with h | h
  · simp [h]
  · cases hp : rowP g r with
    | none => simp
    | some ts => rw [hp] at h; simp at h
theorem begsM_no {g : List Sym} {r : List Int} (h : rowB g r = false) : begsM g r = [] := List.length_eq_zero_iff.1 (termsN_no h)
theorem row_codes {g : List Sym} {r : List Int} (h : rowB g r = true) : ∀ c ∈ r, -24 ≤ c ∧ c < g.length := by
  obtain ⟨hg, hr, ts, hts, _⟩ := rowB_parts h
  intro c hc
  exact arOf_lt (parts_codes _ r (Nat.le_refl _) hts c hc)
theorem row_known {g : List Sym} {r : List Int} (h : rowB g r = true) : Known g r := fun c hc => (row_codes h c hc).2
theorem row_len {g : List Sym} {r : List Int} (h : rowB g r = true) : Len r := by
  have := (rowB_parts h).2.1
  unfold Len; omega
/-! ### How deep -/
def dep (g : List Sym) (r : List Int) : Nat :=
  if hr : r = [] then 0 else match h : lenN g r 1 with
    | none => 0
    | some k => max (1 + dep g (r.take k).tail) (dep g (r.drop k))
termination_by r.length
decreasing_by
  · have := lenN_le h
    have : r.length ≠ 0 := fun e => hr (List.length_eq_zero_iff.1 e)
    simp; omega
  · have := lenN_le h
    have : r.length ≠ 0 := fun e => hr (List.length_eq_zero_iff.1 e)
    simp; omega
theorem dep_nil (g : List Sym) : dep g [] = 0 := by rw [dep]; simp
theorem dep_some {g : List Sym} {r : List Int} {k : Nat} (h : lenN g r 1 = some k) : dep g r = max (1 + dep g (r.take k).tail) (dep g (r.drop k)) := by
  have hr : r ≠ [] := by rintro rfl; simp [lenN] at h
  rw [dep]; rw [dif_neg hr]; split
  · rename_i hk; rw [h] at hk; cases hk
  · rename_i k' hk; rw [h] at hk; cases hk; rfl
theorem dep_one {g : List Sym} {r : List Int} {k : Nat} (h : lenN g r 1 = some k) : dep g (r.take k) = 1 + dep g (r.take k).tail := by
  have hle := lenN_le h
  rw [dep_some (lenN_take h)]
  have e2 : (r.take k).drop k = [] := List.drop_of_length_le (by simp; omega)
  have e3 : (r.take k).take k = r.take k := List.take_of_length_le (by simp; omega)
  rw [e2, e3, dep_nil]; omega
theorem dep_first {g : List Sym} {r : List Int} {k : Nat} (h : lenN g r 1 = some k) : dep g r = max (dep g (r.take k)) (dep g (r.drop k)) := by
  rw [dep_some h, dep_one h]
theorem dep_app {g : List Sym} : ∀ (n : Nat) {a b : List Int} {ts : List (List Int)}, a.length ≤ n → parts g a = some ts → dep g (a ++ b) = max (dep g a) (dep g b)
  | n, a, b, ts, hn, ha => by
    rcases parts_cases ha with ⟨rfl, rfl⟩ | ⟨k, vs, hl, hv, rfl, hne⟩
    · simp [dep_nil]
    · have hle := lenN_le hl
      match n, hn with
      | 0, hn => exact absurd (List.length_eq_zero_iff.1 (Nat.le_zero.1 hn)) hne
      | n + 1, hn =>
        have h1 := dep_app n (a := a.drop k) (b := b) (by simp; omega) hv
        rw [dep_some (lenN_app b hl), dep_some hl, List.drop_append_of_le_length hle.1, h1, List.take_append_of_le_length hle.1]
        omega
theorem dep_join {g : List Sym} {a b : List Int} {ts : List (List Int)} (ha : parts g a = some ts) : dep g (a ++ b) = max (dep g a) (dep g b) := dep_app _ (Nat.le_refl _) ha
theorem dep_le {g : List Sym} : ∀ (n : Nat) (r : List Int), r.length ≤ n → dep g r ≤ r.length
  | n, r, hn => by
    by_cases hr : r = []
    · subst hr; simp [dep_nil]
    · cases hl : lenN g r 1 with
      | none => rw [dep, dif_neg hr]; split <;> simp_all
      | some k =>
        have hle := lenN_le hl
        match n, hn with
        | 0, hn => exact absurd (List.length_eq_zero_iff.1 (Nat.le_zero.1 hn)) hr
        | n + 1, hn =>
          have h1 := dep_le (g := g) n (r.take k).tail (by simp; omega)
          have h2 := dep_le (g := g) n (r.drop k) (by simp; omega)
          rw [dep_some hl]
          simp at h1 h2; omega
/-- The depth, with what is open counted in a stack. -/
def popS : List Nat → List Nat
  | [] => []
  | n :: s => if 1 < n then (n - 1) :: s else popS s
def runD (g : List Sym) : List Int → List Nat → Nat → Nat
  | [], _, m => m
  | c :: r, s, m => if 0 < (arOf g c).getD 0 then runD g r ((arOf g c).getD 0 :: s) (max m (s.length + 1)) else runD g r (popS s) (max m (s.length + 1))
theorem run_many {g : List Sym} (N : Nat) (hA : ∀ r : List Int, r.length ≤ N → ∀ k s m, lenN g r 1 = some k → runD g r s m = runD g (r.drop k) (popS s) (max m (s.length + dep g (r.take k)))) :
    ∀ (n : Nat) (r : List Int), r.length ≤ N → ∀ k s m, lenN g r (n + 1) = some k → runD g r ((n + 1) :: s) m = runD g (r.drop k) (popS s) (max m (s.length + 1 + dep g (r.take k)))
  | 0, r, hr, k, s, m, h => by rw [hA r hr k _ m h]; simp [popS]
  | n + 1, r, hr, k, s, m, h => by
    obtain ⟨k1, k2, h1, h2, rfl⟩ := lenN_first h
    have hle := lenN_le h1
    have hle2 := lenN_le h2
    rw [hA r hr k1 _ m h1]
    have e1 : popS ((n + 1 + 1) :: s) = (n + 1) :: s := by simp [popS]
    have e2 : dep g (r.take (k1 + k2)) = max (dep g (r.take k1)) (dep g ((r.drop k1).take k2)) := by
      rw [List.take_add]; exact dep_join (parts_one h1)
    rw [e1, run_many N hA n (r.drop k1) (by simp; omega) k2 s _ h2, List.drop_drop, e2]
    simp only [List.length_cons]
    congr 1
    omega
theorem run_term {g : List Sym} : ∀ (N : Nat) (r : List Int), r.length ≤ N → ∀ k s m, lenN g r 1 = some k → runD g r s m = runD g (r.drop k) (popS s) (max m (s.length + dep g (r.take k)))
  | N, [], hr, k, s, m, h => by simp [lenN] at h
  | 0, c :: r, hr, k, s, m, h => by simp at hr
  | N + 1, c :: r, hr, k, s, m, h => by
    obtain ⟨a, j, ha, hm, rfl⟩ := lenN_some h
    rw [Nat.zero_add] at hm
    have hd := dep_one h
    rw [List.take_succ_cons, List.tail_cons] at hd
    rw [List.drop_succ_cons, List.take_succ_cons, hd]
    cases a with
    | zero =>
      have e : j = 0 := by cases r <;> simp [lenN] at hm <;> omega
      subst e
      simp [runD, ha, dep_nil]
    | succ a =>
      have h1 := run_many N (run_term N) a r (by simp at hr; omega) j s (max m (s.length + 1)) hm
      simp [runD, ha, h1]
      congr 1
      omega
theorem run_row {g : List Sym} : ∀ (n : Nat) {r : List Int} {ts : List (List Int)} (m : Nat), r.length ≤ n → parts g r = some ts → runD g r [] m = max m (dep g r)
  | n, r, ts, m, hn, h => by
    rcases parts_cases h with ⟨rfl, rfl⟩ | ⟨k, vs, hl, hv, rfl, hne⟩
    · simp [runD, dep_nil]
    · have hle := lenN_le hl
      match n, hn with
      | 0, hn => exact absurd (List.length_eq_zero_iff.1 (Nat.le_zero.1 hn)) hne
      | n + 1, hn =>
        rw [run_term _ r (Nat.le_refl _) k [] m hl, dep_first hl]
        have := run_row n (r := r.drop k) (max m (dep g (r.take k))) (by simp; omega) hv
        simp [popS, this]
/-- The stack as a row of numbers, its top behind. -/
def stk (s : List Nat) : List D := ints (@List.map Nat Int (fun n => (n : Int)) s.reverse)
theorem stk_nil : stk [] = [] := rfl
theorem stk_cons (n : Nat) (s : List Nat) : stk (n :: s) = stk s ++ [.int .i64 (n : Int)] := by simp [stk, ints]
theorem stk_len (s : List Nat) : (stk s).length = s.length := by simp [stk, ints]
theorem stk_top (n : Nat) (s : List Nat) : (stk (n :: s))[s.length]? = some (.int .i64 (n : Int)) := by
  rw [stk_cons, ← stk_len s]; simp
theorem stk_set (n m : Nat) (s : List Nat) : (stk (n :: s)).set s.length (.int .i64 (m : Int)) = stk (m :: s) := by
  rw [stk_cons, stk_cons, ← stk_len s, List.set_append_right _ _ (Nat.le_refl _)]; simp
theorem stk_take (n : Nat) (s : List Nat) : (stk (n :: s)).take s.length = stk s := by
  rw [stk_cons, ← stk_len s]; simp
def mxN (m k : Nat) : Nat := max m k
theorem mxN_eq (m k : Nat) : (if (k : Int) > m then (k : Int) else (m : Int)) = (mxN m k : Int) := by
  unfold mxN; split <;> omega
theorem popS_len : ∀ (s : List Nat), (popS s).length ≤ s.length
  | [] => Nat.le_refl _
  | n :: s => by
    rw [popS]; split
    · simp
    · have := popS_len s; simp; omega
theorem popS_mem : ∀ {s : List Nat}, (∀ n ∈ s, 1 ≤ n ∧ n ≤ 3) → ∀ n ∈ popS s, 1 ≤ n ∧ n ≤ 3
  | [], h, n, hn => by simp [popS] at hn
  | k :: s, h, n, hn => by
    rw [popS] at hn; split at hn
    · rcases List.mem_cons.1 hn with rfl | hn
      · have := h k (by simp); omega
      · exact h n (by simp [hn])
    · exact popS_mem (fun n hn => h n (by simp [hn])) n hn
theorem runD_go {g : List Sym} {r : List Int} {i : Nat} (h : i < r.length) (s : List Nat) (m : Nat) : runD g (r.drop i) s m = if 0 < (arOf g (gi r i)).getD 0 then runD g (r.drop (i + 1)) ((arOf g (gi r i)).getD 0 :: s) (mxN m (s.length + 1)) else runD g (r.drop (i + 1)) (popS s) (mxN m (s.length + 1)) := by
  rw [gi_drop h]; rfl
/-- The depth by the terms. -/
def depT (g : List Sym) : List (List Int) → Nat
  | [] => 0
  | t :: ts => mxN (1 + dep g t.tail) (depT g ts)
theorem dep_parts {g : List Sym} : ∀ (n : Nat) {r : List Int} {ts : List (List Int)}, r.length ≤ n → parts g r = some ts → dep g r = depT g ts
  | n, r, ts, hn, h => by
    rcases parts_cases h with ⟨rfl, rfl⟩ | ⟨k, vs, hl, hv, rfl, hne⟩
    · simp [dep_nil, depT]
    · have hle := lenN_le hl
      match n, hn with
      | 0, hn => exact absurd (List.length_eq_zero_iff.1 (Nat.le_zero.1 hn)) hne
      | n + 1, hn =>
        rw [dep_some hl, dep_parts n (r := r.drop k) (by simp; omega) hv, depT]; rfl
theorem parts_mem {g : List Sym} : ∀ (n : Nat) {r : List Int} {ts : List (List Int)}, r.length ≤ n → parts g r = some ts → ∀ t ∈ ts, t ≠ [] ∧ t.length ≤ r.length ∧ ∃ us, parts g t.tail = some us
  | n, r, ts, hn, h, t, ht => by
    rcases parts_cases h with ⟨rfl, rfl⟩ | ⟨k, vs, hl, hv, rfl, hne⟩
    · simp at ht
    · have hle := lenN_le hl
      match n, hn with
      | 0, hn => exact absurd (List.length_eq_zero_iff.1 (Nat.le_zero.1 hn)) hne
      | n + 1, hn =>
        rcases List.mem_cons.1 ht with rfl | ht
        · refine ⟨?_, by simp; omega, parts_tail hl⟩
          intro e; have := congrArg List.length e; rw [List.length_take] at this; simp only [List.length_nil] at this; omega
        · obtain ⟨h1, h2, h3⟩ := parts_mem n (r := r.drop k) (by simp; omega) hv t ht
          exact ⟨h1, by simp at h2; omega, h3⟩
theorem tkX_ints {n : Nat} {r : List Int} (h : n ≤ r.length) (e : List D) : tkX n (ints r) e = ints (r.take n) := by
  rw [tkX_eq _ _ _ (.inr (by rw [ints_len]; exact h)), List.take_append_of_le_length (by rw [ints_len]; exact h)]
  simp [ints]
theorem ints_drop (n : Nat) (r : List Int) : (ints r).drop n = ints (r.drop n) := by simp [ints]
theorem ints_take (n : Nat) (r : List Int) : (ints r).take n = ints (r.take n) := by simp [ints]
/-! ### Which variables -/
abbrev Up (l : List Int) : Prop := l.Pairwise (· < ·)
def lowS (vs : List Int) (v : Int) : Nat := (vs.takeWhile (fun x => decide (x < v))).length
def insS (vs : List Int) (v : Int) : List Int := if v ∈ vs then vs else vs.take (lowS vs v) ++ v :: vs.drop (lowS vs v)
def seenF : List Int → List Int → List Int
  | vs, [] => vs
  | vs, c :: r => seenF (if c < 0 then insS vs (-1 - c) else vs) r
theorem low_spec : ∀ {vs : List Int} (v : Int), Up vs → (∀ x ∈ vs.take (lowS vs v), x < v) ∧ (∀ x ∈ vs.drop (lowS vs v), v ≤ x) ∧ lowS vs v ≤ vs.length
  | [], v, h => by simp [lowS]
  | x :: vs, v, h => by
    obtain ⟨h1, h2⟩ := List.pairwise_cons.1 h
    obtain ⟨i1, i2, i3⟩ := low_spec (vs := vs) v h2
    by_cases hx : x < v
    · have e : lowS (x :: vs) v = lowS vs v + 1 := by simp [lowS, hx]
      rw [e, List.take_succ_cons, List.drop_succ_cons]
      refine ⟨fun y hy => ?_, i2, by simp; omega⟩
      rcases List.mem_cons.1 hy with rfl | hy
      · exact hx
      · exact i1 y hy
    · have e : lowS (x :: vs) v = 0 := by simp [lowS, hx]
      rw [e]
      refine ⟨by simp, fun y hy => ?_, by simp⟩
      rcases List.mem_cons.1 (by simpa using hy) with rfl | hy
      · omega
      · have := h1 y hy; omega
theorem mem_ins {vs : List Int} {v x : Int} : x ∈ insS vs v ↔ x ∈ vs ∨ x = v := by
  unfold insS
  split
  · rename_i h
    constructor
    · exact Or.inl
    · rintro (h1 | rfl)
      · exact h1
      · exact h
  · constructor
    · intro h
      rcases List.mem_append.1 h with h | h
      · exact Or.inl (List.mem_of_mem_take h)
      · rcases List.mem_cons.1 h with rfl | h
        · exact Or.inr rfl
        · exact Or.inl (List.mem_of_mem_drop h)
    · rintro (h | rfl)
      · rw [← List.take_append_drop (lowS vs v) vs] at h
        rcases List.mem_append.1 h with h | h
        · exact List.mem_append_left _ h
        · exact List.mem_append_right _ (List.mem_cons_of_mem _ h)
      · exact List.mem_append_right _ (List.mem_cons_self ..)
theorem up_ins {vs : List Int} {v : Int} (h : Up vs) : Up (insS vs v) := by
  unfold insS
  split
  · exact h
  · rename_i hv
    obtain ⟨h1, h2, h3⟩ := low_spec v h
    have h0 := h
    rw [← List.take_append_drop (lowS vs v) vs, Up, List.pairwise_append] at h0
    obtain ⟨a1, a2, a3⟩ := h0
    rw [Up, List.pairwise_append]
    refine ⟨a1, List.pairwise_cons.2 ⟨fun x hx => ?_, a2⟩, fun x hx y hy => ?_⟩
    · have hx2 := h2 x hx
      have : x ≠ v := fun e => hv (e ▸ List.mem_of_mem_drop hx)
      omega
    · rcases List.mem_cons.1 hy with rfl | hy
      · exact h1 x hx
      · exact a3 x hx y hy
theorem mem_seen : ∀ {r vs : List Int} {x : Int}, x ∈ seenF vs r ↔ x ∈ vs ∨ (0 ≤ x ∧ (-1 - x) ∈ r)
  | [], vs, x => by simp [seenF]
  | c :: r, vs, x => by
    rw [seenF, mem_seen (r := r)]
    by_cases hc : c < 0
    · rw [if_pos hc, mem_ins, List.mem_cons]
      constructor
      · rintro ((h | rfl) | ⟨h1, h2⟩)
        · exact Or.inl h
        · exact Or.inr ⟨by omega, Or.inl (by omega)⟩
        · exact Or.inr ⟨h1, Or.inr h2⟩
      · rintro (h | ⟨h1, h2 | h2⟩)
        · exact Or.inl (Or.inl h)
        · exact Or.inl (Or.inr (by omega))
        · exact Or.inr ⟨h1, h2⟩
    · rw [if_neg hc, List.mem_cons]
      constructor
      · rintro (h | ⟨h1, h2⟩)
        · exact Or.inl h
        · exact Or.inr ⟨h1, Or.inr h2⟩
      · rintro (h | ⟨h1, h2 | h2⟩)
        · exact Or.inl h
        · omega
        · exact Or.inr ⟨h1, h2⟩
theorem up_seen : ∀ {r vs : List Int}, Up vs → Up (seenF vs r)
  | [], vs, h => h
  | c :: r, vs, h => by
    rw [seenF]
    refine up_seen (r := r) ?_
    split
    · exact up_ins h
    · exact h
theorem mem_varsFrom {r : List Int} : ∀ {k v : Nat} {x : Int}, x ∈ varsFrom r k v ↔ (v : Int) ≤ x ∧ x < ((v + k : Nat) : Int) ∧ (-1 - x) ∈ r
  | 0, v, x => by
    simp only [varsFrom, List.not_mem_nil, false_iff]
    rintro ⟨h1, h2, h3⟩; omega
  | k + 1, v, x => by
    rw [varsFrom]
    have ih := mem_varsFrom (r := r) (k := k) (v := v + 1) (x := x)
    split
    · rename_i h
      simp at h
      rw [List.mem_cons, ih]
      constructor
      · rintro (rfl | ⟨h1, h2, h3⟩)
        · exact ⟨by omega, by omega, h⟩
        · exact ⟨by omega, by omega, h3⟩
      · rintro ⟨h1, h2, h3⟩
        by_cases e : x = v
        · exact Or.inl e
        · exact Or.inr ⟨by omega, by omega, h3⟩
    · rename_i h
      simp at h
      rw [ih]
      constructor
      · rintro ⟨h1, h2, h3⟩; exact ⟨by omega, by omega, h3⟩
      · rintro ⟨h1, h2, h3⟩
        have e : x ≠ v := by rintro rfl; exact h h3
        exact ⟨by omega, by omega, h3⟩
theorem up_varsFrom {r : List Int} : ∀ {k v : Nat}, Up (varsFrom r k v)
  | 0, v => List.Pairwise.nil
  | k + 1, v => by
    rw [varsFrom]
    split
    · refine List.pairwise_cons.2 ⟨fun x hx => ?_, up_varsFrom⟩
      have := (mem_varsFrom.1 hx).1
      omega
    · exact up_varsFrom
theorem up_ext : ∀ {a b : List Int}, Up a → Up b → (∀ x, x ∈ a ↔ x ∈ b) → a = b
  | [], [], _, _, _ => rfl
  | [], y :: b, _, _, h => by have := (h y).2 (by simp); simp at this
  | x :: a, [], _, _, h => by have := (h x).1 (by simp); simp at this
  | x :: a, y :: b, ha, hb, h => by
    obtain ⟨a1, a2⟩ := List.pairwise_cons.1 ha
    obtain ⟨b1, b2⟩ := List.pairwise_cons.1 hb
    have e : x = y := by
      have h1 := (h x).1 (by simp)
      have h2 := (h y).2 (by simp)
      rcases List.mem_cons.1 h1 with h1 | h1
      · exact h1
      · rcases List.mem_cons.1 h2 with h2 | h2
        · exact h2.symm
        · have := a1 y h2; have := b1 x h1; omega
    subst e
    rw [up_ext a2 b2 (fun z => ?_)]
    constructor
    · intro hz
      rcases List.mem_cons.1 ((h z).1 (by simp [hz])) with rfl | h1
      · have := a1 z hz; omega
      · exact h1
    · intro hz
      rcases List.mem_cons.1 ((h z).2 (by simp [hz])) with rfl | h1
      · have := b1 z hz; omega
      · exact h1
theorem seen_vars {r : List Int} (h : ∀ c ∈ r, -24 ≤ c) : seenF [] r = varsM r := by
  refine up_ext (up_seen List.Pairwise.nil) up_varsFrom (fun x => ?_)
  rw [mem_seen, varsM, mem_varsFrom]
  constructor
  · rintro (h1 | ⟨h1, h2⟩)
    · simp at h1
    · exact ⟨by omega, by have := h _ h2; omega, h2⟩
  · rintro ⟨h1, h2, h3⟩
    exact Or.inr ⟨by omega, h3⟩
theorem up_gi : ∀ {vs : List Int}, Up vs → ∀ {i j : Nat}, i < j → j < vs.length → gi vs i < gi vs j
  | vs, h, i, j, hij, hj => by
    have h1 := List.pairwise_iff_getElem.1 h i j (by omega) hj hij
    simpa [gi, hj, show i < vs.length by omega] using h1
theorem low_of : ∀ {vs : List Int} {v : Int} (i : Nat), i ≤ vs.length → (∀ k, k < i → gi vs k < v) → (∀ k, i ≤ k → k < vs.length → v ≤ gi vs k) → lowS vs v = i
  | [], v, i, h, h1, h2 => by simp at h; simp [lowS, h]
  | x :: vs, v, 0, h, h1, h2 => by
    have h3 := h2 0 (Nat.le_refl _) (by simp)
    simp [gi] at h3
    have h4 : ¬ x < v := by omega
    simp [lowS, h4]
  | x :: vs, v, i + 1, h, h1, h2 => by
    have h3 := h1 0 (by omega)
    simp [gi] at h3
    have e : lowS (x :: vs) v = lowS vs v + 1 := by simp [lowS, h3]
    rw [e, low_of (vs := vs) (v := v) i (by simpa using h) (fun k hk => by simpa [gi] using h1 (k + 1) (by omega)) (fun k hk hk2 => by simpa [gi] using h2 (k + 1) (by omega) (by simp; omega))]
theorem low_le : ∀ {vs : List Int} {v : Int}, lowS vs v ≤ vs.length
  | vs, v => (List.takeWhile_sublist _).length_le
theorem low_mem {vs : List Int} {v : Int} (h : Up vs) : v ∈ vs ↔ lowS vs v < vs.length ∧ gi vs (lowS vs v) = v := by
  obtain ⟨h1, h2, h3⟩ := low_spec v h
  constructor
  · intro hv
    rw [← List.take_append_drop (lowS vs v) vs] at hv
    rcases List.mem_append.1 hv with hv | hv
    · have := h1 v hv; omega
    · have hlt : lowS vs v < vs.length := by
        rcases Nat.lt_or_ge (lowS vs v) vs.length with hl | hl
        · exact hl
        · rw [List.drop_of_length_le hl] at hv; simp at hv
      refine ⟨hlt, ?_⟩
      rw [gi_drop hlt] at hv h2
      rcases List.mem_cons.1 hv with hv | hv
      · exact hv.symm
      · have h4 := h2 _ (List.mem_cons_self ..)
        obtain ⟨j, hj, he⟩ := List.getElem_of_mem hv
        simp at hj
        have h5 := up_gi h (i := lowS vs v) (j := lowS vs v + 1 + j) (by omega) (by omega)
        have h6 : gi vs (lowS vs v + 1 + j) = v := by
          rw [List.getElem_drop] at he
          simp [gi, show lowS vs v + 1 + j < vs.length by omega, he]
        omega
  · rintro ⟨h4, h5⟩
    rw [← h5]
    exact gi_mem h4
theorem ins_len {vs : List Int} {v : Int} : (insS vs v).length ≤ vs.length + 1 := by
  unfold insS
  split
  · omega
  · simp; omega
end Go.Qu

/- Rows of terms: what the program's and the reference's exported functions hand back. For every input; no condition. -/
set_option linter.unusedVariables false
set_option linter.unusedSimpArgs false
set_option maxRecDepth 100000
namespace Go.Proofs.YtollbcdhmnnjeaaDoor.Ab
open Go Go.Ab Go.Qu Go.Proofs
attribute [local simp] and_assoc
theorem w_row (z z' : Bool) (g : List Sym) (e e' : List D) (r : List Int) : C 53 [iG z g e, iS z' r e'] = some (.tup [iI (termsN g r), iI (if rowB g r = true then 0 else 200)], [iG z g e, iS z' r e']) := by
  refine wfn (lk := []) rfl rfl (fnW_way (q53 _ _ z (syms g) e z' (ints r) e' _) ?_)
  have h1 := w_begins z z' g e e' r
  cases h : rowB g r
  · simp [-Bool.exists_bool, h1, h, termsN_no h]
  · simp [-Bool.exists_bool, h1, h, ints_len, termsN]
theorem w_isrow (z z' : Bool) (g : List Sym) (e e' : List D) (r : List Int) : C 22 [iG z g e, iS z' r e'] = some (iB (rowB g r), [iG z g e, iS z' r e']) := by
  refine wfn (lk := []) rfl rfl (fnW_way (q22 _ _ z (syms g) e z' (ints r) e' _) ?_)
  have h1 := w_begins z z' g e e' r
  cases h : rowB g r <;> simp [-Bool.exists_bool, h1, h]
def endB (g : List Sym) (r : List Int) (i : Int) : Bool := rowB g r && (decide (0 ≤ i) && decide (i < r.length))
def endV (g : List Sym) (r : List Int) (i : Int) : Int := if endB g r i = true then skV g r i.toNat 1 else 0
theorem w_sum {g : List Sym} (hg : SigOk g) {r : List Int} (hr : Len r) (hk : Known g r) (z z' : Bool) (e e' : List D) : C 35 [iG z g e, iS z' r e'] = some (iI (sumW g r), [iG z g e, iS z' r e']) := by
  have hrl := hr.lt
  refine wfn (lk := []) rfl rfl (fnW_way (q35 _ _ z (syms g) e z' (ints r) e' _) ?_)
  have h1 := fun x hx => blk_fun (F := F) (d := d35) (lk := []) (p := [1,1,0,1,0,0]) (p0 := [1,1,0,1]) (id := 0) (by kernel_rfl) (st := fun (x : Nat × Int) => [(0, iG z g e), (5, iI x.2), (8, iS z' r e'), (9, iI r.length), (10, iI x.1)]) (I := fun x => x.1 ≤ r.length ∧ 0 ≤ x.2 ∧ x.2 ≤ 20 * x.1) (μ := fun x => r.length - x.1)
    (res := fun x => .norm [(0, iG z g e), (5, iI (x.2 + sumW g (r.drop x.1))), (8, iS z' r e'), (9, iI r.length), (10, iI r.length)])
    (fun x hx => by
      obtain ⟨i, k⟩ := x
      obtain ⟨hx1, hx2, hx3⟩ := hx
      dsimp only at hx1 hx2 hx3
      by_cases hi : i < r.length
      · have hc := hk _ (gi_mem hi)
        have hcw := codeW_le hg _ hc
        have hi' : (i : Int) < r.length := by omega
        have hw : IntKind.wrap .i64 (k + codeW g (gi r i)) = k + codeW g (gi r i) := wr _ (by omega) (by omega)
        refine .go (i + 1, k + codeW g (gi r i)) (wpQ_way (q35_l0a _ _ z (syms g) e k z' (ints r) e' _ i _) ?_) ⟨by dsimp only; omega, by dsimp only; omega, by dsimp only; omega⟩ (by dsimp only; omega) ?_
        · by_cases h0 : gi r i < 0
          · have e1 : codeW g (gi r i) = 1 := by simp [codeW, h0]
            have h0n : ¬ 0 ≤ gi r i := by omega
            rw [e1] at hw ⊢
            simp [-Bool.exists_bool, -getElem?_pos, -Int.natCast_add, hi', Go.Ab.ints_at hi, h0, h0n, hw, wr1 hi (by omega)]
          · have h0' : 0 ≤ gi r i := by omega
            obtain ⟨s, hs⟩ := at_lt (l := g) (i := (gi r i).toNat) (by omega)
            have e1 : codeW g (gi r i) = s.wt := by simp [codeW, h0, hs]
            rw [e1] at hw ⊢
            simp [-Bool.exists_bool, -getElem?_pos, -Int.natCast_add, hi', Go.Ab.ints_at hi, h0, h0', syms_at hs, hw, wr1 hi (by omega)]
        · dsimp only
          rw [gi_drop hi, sumW, Int.add_assoc]
      · have e1 : i = r.length := by omega
        subst e1
        refine .stop (.exit 0 [(0, iG z g e), (5, iI k), (8, iS z' r e'), (9, iI r.length), (10, iI r.length)]) (wpQ_way (q35_l0a _ _ z (syms g) e k z' (ints r) e' _ _ _) (by simp)) rfl ?_
        simp [blkO, sumW]) x hx
  have h2 : evP F (Go.Ab.W F) (JW F d35 []) d35 [] [1,1,0,1] [(0, iG z g e), (5, iI 0), (8, iS z' r e'), (9, iI r.length), (10, iI 0)] = _ := h1 (0, 0) ⟨Nat.zero_le _, by decide, by decide⟩
  rw [List.drop_zero, Int.zero_add] at h2
  simp [-Bool.exists_bool, ints_len, h2]
theorem w_weight (z z' : Bool) (g : List Sym) (e e' : List D) (r : List Int) : C 14 [iG z g e, iS z' r e'] = some (.tup [iI (if rowB g r = true then sumW g r else 0), iI (if rowB g r = true then 0 else 200)], [iG z g e, iS z' r e']) := by
  refine wfn (lk := []) rfl rfl (fnW_way (q14 _ _ z (syms g) e z' (ints r) e' _) ?_)
  have h1 := w_isrow z z' g e e' r
  cases h : rowB g r
  · simp [-Bool.exists_bool, h1, h]
  · have h2 := w_sum (sigOk (rowB_parts h).1) (row_len h) (row_known h) z z' e e'
    simp [-Bool.exists_bool, h1, h, h2]
/-! ### Numbers that rise -/
/-! ### The reference's -/
theorem termsM_of {g : List Sym} {r : List Int} (hg : sigB g = true) : termsM g r = if rowB g r = true then (termsN g r : Int) else -1 := by
  unfold termsM
  cases hp : rowP g r with
  | none => simp [rowB, hg, hp]
  | some ts => simp [rowB, hg, hp, termsN, begsM, begs_len]
theorem rowB_sig {g : List Sym} {r : List Int} (hg : sigB g = false) : rowB g r = false := by simp [rowB, hg]
end Go.Proofs.YtollbcdhmnnjeaaDoor.Ab

/- Literals, clauses: what the program's and the reference's functions hand back. For every input; no condition. -/
set_option linter.unusedVariables false
set_option linter.unusedSimpArgs false
set_option maxRecDepth 100000
namespace Go.Proofs.YtollbcdhmnnjeaaDoor.Ab
open Go Go.Ab Go.Qu Go.Proofs
attribute [local simp] and_assoc
theorem w_litmay (z : Bool) (g : List Sym) (e : List D) (b z' : Bool) (a : List Int) (e' : List D) : C 36 [iG z g e, iLit b z' a e'] = some (iB (atomB g a), [iG z g e, iLit b z' a e']) := by
  refine wfn (lk := []) rfl rfl (fnW_way (q36 _ _ z (syms g) e b z' (ints a) e' _) ?_)
  have h1 := w_isatom z z' g e e' a
  cases h : atomB g a <;> simp [-Bool.exists_bool, h1, h]
theorem w_litsmay (z z' : Bool) (g : List Sym) (e e' : List D) {ls : List LitR} (hl : ls.length ≤ 1000) : C 29 [iG z g e, iL z' ls e'] = some (.tup [iI (if litsB g ls = true then (lenL ls : Int) else 0), iB (litsB g ls)], [iG z g e, iL z' ls e']) := by
  refine wfn (lk := []) rfl rfl (fnW_way (q29 _ _ z (syms g) e z' (lits ls) e' _) ?_)
  have h1 := fun x hx => blk_fun (F := F) (d := d29) (lk := []) (p := [1,1,0,1,0,0]) (p0 := [1,1,0,1]) (id := 0) (by kernel_rfl) (st := fun (x : Nat × Nat) => [(0, iG z g e), (6, iI x.2), (9, iL z' ls e'), (10, iI ls.length), (11, iI x.1)]) (I := fun x => x.1 ≤ ls.length ∧ x.2 ≤ 49 * x.1) (μ := fun x => ls.length - x.1)
    (res := fun x => if litsB g (ls.drop x.1) = true then .norm [(0, iG z g e), (6, iI (x.2 + lenL (ls.drop x.1) : Nat)), (9, iL z' ls e'), (10, iI ls.length), (11, iI ls.length)] else .ret [(4, iI 0), (5, iB false)])
    (fun x hx => by
      obtain ⟨i, k⟩ := x
      obtain ⟨hx1, hx2⟩ := hx
      dsimp only at hx1 hx2
      by_cases hi : i < ls.length
      · obtain ⟨l, hl1⟩ := at_lt hi
        have hd : ls.drop i = l :: ls.drop (i + 1) := by
          rw [List.drop_eq_getElem_cons hi]
          rw [List.getElem?_eq_getElem hi] at hl1
          cases hl1; rfl
        have hm := w_litmay z g e l.neg l.r.z l.r.l l.r.e
        have hi' : (i : Int) < ls.length := by omega
        cases hb : atomB g l.r.l
        · refine .stop (.ret [(4, iI 0), (5, iB false)]) (wpQ_way (q29_l0a _ _ z (syms g) e k z' (lits ls) e' _ i _) ?_) rfl ?_
          · simp [-Bool.exists_bool, -getElem?_pos, hi', lits_at hl1, hm, hb]
          · dsimp only; rw [hd]; simp [litsB, hb, blkO]
        · have h49 := (atom_codes hb).1
          have hw : IntKind.wrap .i64 ((k : Int) + (l.r.l.length : Int)) = ((k + l.r.l.length : Nat) : Int) := by rw [wr _ (by omega) (by omega)]; omega
          refine .go (i + 1, k + l.r.l.length) (wpQ_way (q29_l0a _ _ z (syms g) e k z' (lits ls) e' _ i _) ?_) ⟨by dsimp only; omega, by dsimp only; omega⟩ (by dsimp only; omega) ?_
          · simp [-Bool.exists_bool, -getElem?_pos, -Int.natCast_add, hi', lits_at hl1, hm, hb, ints_len, hw, wr1 hi (by omega)]
          · dsimp only; rw [hd]
            have h3 : litsB g (l :: ls.drop (i + 1)) = litsB g (ls.drop (i + 1)) := by simp [litsB, hb]
            rw [h3, lenL, ← Nat.add_assoc]
      · have e1 : i = ls.length := by omega
        subst e1
        refine .stop (.exit 0 [(0, iG z g e), (6, iI k), (9, iL z' ls e'), (10, iI ls.length), (11, iI ls.length)]) (wpQ_way (q29_l0a _ _ z (syms g) e k z' (lits ls) e' _ _ _) (by simp)) rfl ?_
        simp [blkO, litsB, lenL]) x hx
  have h2 : evP F (Go.Ab.W F) (JW F d29 []) d29 [] [1,1,0,1] [(0, iG z g e), (6, iI 0), (9, iL z' ls e'), (10, iI ls.length), (11, iI 0)] = _ := h1 (0, 0) ⟨Nat.zero_le _, Nat.le_refl _⟩
  rw [List.drop_zero, Nat.zero_add] at h2
  cases h : litsB g ls
  · rw [h] at h2
    simp only [Bool.false_eq_true, if_false] at h2
    simp [-Bool.exists_bool, lits_len, h2]
  · rw [h] at h2
    simp only [if_true] at h2
    simp [-Bool.exists_bool, lits_len, h2]
theorem w_rowsmay (z z' : Bool) (g : List Sym) (e e' : List D) {ts : List Row} (hl : ts.length ≤ 1000) : C 30 [iG z g e, iR z' ts e'] = some (.tup [iI (if rowsB g ts = true then (lenR ts : Int) else 0), iB (rowsB g ts)], [iG z g e, iR z' ts e']) := by
  refine wfn (lk := []) rfl rfl (fnW_way (q30 _ _ z (syms g) e z' (rws ts) e' _) ?_)
  cases ts with
  | nil =>
    have h2 : evP F (Go.Ab.W F) (JW F d30 []) d30 [] [1,1,0,1] [(0, iG z g e), (6, iI 0), (7, iI 0), (12, iR z' [] e'), (13, iI 0), (14, iI 0)] = some (.norm [(0, iG z g e), (6, iI 0), (7, iI 0), (12, iR z' [] e'), (13, iI 0), (14, iI 0)]) :=
      blk_fun (F := F) (d := d30) (lk := []) (p := [1,1,0,1,0,0]) (p0 := [1,1,0,1]) (id := 0) (by kernel_rfl) (st := fun (_ : Unit) => [(0, iG z g e), (6, iI 0), (7, iI 0), (12, iR z' [] e'), (13, iI 0), (14, iI 0)]) (I := fun _ => True) (μ := fun _ => 0) (res := fun _ => .norm [(0, iG z g e), (6, iI 0), (7, iI 0), (12, iR z' [] e'), (13, iI 0), (14, iI 0)])
        (fun _ _ => .stop (.exit 0 [(0, iG z g e), (6, iI 0), (7, iI 0), (12, iR z' [] e'), (13, iI 0), (14, iI 0)]) (wpQ_way (q30_l0a _ _ z (syms g) e 0 0 z' (rws []) e' _ _ _) (by simp)) rfl (by simp [blkO])) () trivial
    simp only [iR, rws_nil] at h2
    simp [-Bool.exists_bool, rws_nil, rowsB, lenR, h2]
  | cons r0 tl =>
    have hsp : ∀ n : Nat, n = termsN g r0.l → rowsB g (r0 :: tl) = rowsF g n (r0 :: tl) := fun n h => by rw [h]; rfl
    have h1 := fun x hx => blk_fun (F := F) (d := d30) (lk := []) (p := [1,1,0,1,0,0]) (p0 := [1,1,0,1]) (id := 0) (by kernel_rfl) (st := fun (x : Nat × Nat) => [(0, iG z g e), (6, iI x.2), (7, iI (if x.1 = 0 then 0 else (termsN g r0.l : Int))), (12, iR z' (r0 :: tl) e'), (13, iI (r0 :: tl).length), (14, iI x.1)]) (I := fun x => x.1 ≤ (r0 :: tl).length ∧ x.2 ≤ 48 * x.1) (μ := fun x => (r0 :: tl).length - x.1)
      (res := fun x => if rowsF g (termsN g r0.l) ((r0 :: tl).drop x.1) = true then .norm [(0, iG z g e), (6, iI (x.2 + lenR ((r0 :: tl).drop x.1) : Nat)), (7, iI (termsN g r0.l)), (12, iR z' (r0 :: tl) e'), (13, iI (r0 :: tl).length), (14, iI (r0 :: tl).length)] else .ret [(4, iI 0), (5, iB false)])
      (fun x hx => by
        obtain ⟨i, k⟩ := x
        obtain ⟨hx1, hx2⟩ := hx
        dsimp only at hx1 hx2
        by_cases hi : i < (r0 :: tl).length
        · obtain ⟨r, hr1⟩ := at_lt hi
          have hd : (r0 :: tl).drop i = r :: (r0 :: tl).drop (i + 1) := by
            rw [List.drop_eq_getElem_cons hi]
            rw [List.getElem?_eq_getElem hi] at hr1
            cases hr1; rfl
          have h0r : i = 0 → r = r0 := fun h => by subst h; simp at hr1; exact hr1.symm
          have hm := w_row z r.z g e r.e r.l
          have hi' : (i : Int) < (r0 :: tl).length := by omega
          generalize r0 :: tl = ts at *
          cases hb : rowB g r.l
          · refine .stop (.ret [(4, iI 0), (5, iB false)]) (wpQ_way (q30_l0a _ _ z (syms g) e k _ z' (rws ts) e' _ i _) ?_) rfl ?_
            · rw [hb] at hm
              simp [-Bool.exists_bool, -getElem?_pos, hi', rws_at hr1, hm]
            · dsimp only; rw [hd]; simp [rowsF, hb, blkO]
          · have h48 := rowB_len hb
            rw [hb] at hm
            by_cases hn : termsN g r.l = termsN g r0.l
            · have hw : IntKind.wrap .i64 ((k : Int) + (r.l.length : Int)) = ((k + r.l.length : Nat) : Int) := by rw [wr _ (by omega) (by omega)]; omega
              refine .go (i + 1, k + r.l.length) (wpQ_way (q30_l0a _ _ z (syms g) e k _ z' (rws ts) e' _ i _) ?_) ⟨by dsimp only; omega, by dsimp only; omega⟩ (by dsimp only; omega) ?_
              · by_cases h0 : i = 0
                · simp [-Bool.exists_bool, -getElem?_pos, -Int.natCast_add, hi', rws_at hr1, hm, ints_len, hw, wr1 hi (by omega), hn, h0] at hr1 ⊢
                  subst h0
                  simp [-Bool.exists_bool, -getElem?_pos, -Int.natCast_add, hi', rws_at hr1, hm, ints_len, hw, wr1 hi (by omega), hn]
                  exact ⟨hi, wr _ (by omega) (by omega)⟩
                · simp [-Bool.exists_bool, -getElem?_pos, -Int.natCast_add, hi', rws_at hr1, hm, ints_len, hw, wr1 hi (by omega), hn, h0]
              · dsimp only; rw [hd]
                have h3 : rowsF g (termsN g r0.l) (r :: ts.drop (i + 1)) = rowsF g (termsN g r0.l) (ts.drop (i + 1)) := by simp [rowsF, hb, hn]
                rw [h3, lenR, ← Nat.add_assoc]
            · have h0 : ¬ i = 0 := fun h => hn (by rw [h0r h])
              have hn' : ¬ (termsN g r.l : Int) = termsN g r0.l := by omega
              refine .stop (.ret [(4, iI 0), (5, iB false)]) (wpQ_way (q30_l0a _ _ z (syms g) e k _ z' (rws ts) e' _ i _) ?_) rfl ?_
              · simp [-Bool.exists_bool, -getElem?_pos, hi', rws_at hr1, hm, h0, hn']
              · dsimp only; rw [hd]; simp [rowsF, hb, hn, blkO]
        · have e1 : i = (r0 :: tl).length := by omega
          have h0 : ¬ i = 0 := by simp at e1; omega
          refine .stop (.exit 0 [(0, iG z g e), (6, iI k), (7, iI (termsN g r0.l)), (12, iR z' (r0 :: tl) e'), (13, iI (r0 :: tl).length), (14, iI (r0 :: tl).length)]) (wpQ_way (q30_l0a _ _ z (syms g) e k _ z' (rws (r0 :: tl)) e' _ _ _) ?_) rfl ?_
          · subst e1; simp
          · subst e1; simp [blkO, rowsF, lenR]) x hx
    have h2 : evP F (Go.Ab.W F) (JW F d30 []) d30 [] [1,1,0,1] [(0, iG z g e), (6, iI 0), (7, iI 0), (12, iR z' (r0 :: tl) e'), (13, iI (r0 :: tl).length), (14, iI 0)] = _ := h1 (0, 0) ⟨Nat.zero_le _, Nat.le_refl _⟩
    rw [List.drop_zero, Nat.zero_add, ← hsp _ rfl] at h2
    generalize r0 :: tl = ts at *
    cases h : rowsB g ts
    · rw [h] at h2
      simp only [Bool.false_eq_true, if_false] at h2
      simp [-Bool.exists_bool, rws_len, h2]
    · rw [h] at h2
      simp only [if_true] at h2
      simp [-Bool.exists_bool, rws_len, h2]
theorem w_clmay (z : Bool) (g : List Sym) (e : List D) (c : Cl) : C 11 [iG z g e, iC c] = some (iB (clB g c), [iG z g e, iC c]) := by
  refine wfn (lk := []) rfl rfl (fnW_way (q11 _ _ z (syms g) e c.lz (lits c.ls) c.le c.tz (rws c.ts) c.te c.cz (lits c.cs) c.ce _) ?_)
  have h1 := w_may z g e
  cases hg : sigB g
  · simp [-Bool.exists_bool, h1, hg, clB]
  by_cases l1 : c.ls.length ≤ 5
  rotate_left
  · have l1' : 5 < (c.ls.length : Int) := by omega
    simp [-Bool.exists_bool, h1, hg, clB, lits_len, l1, l1']
  by_cases l2 : c.ts.length ≤ 3
  rotate_left
  · have l1' : ¬ 5 < (c.ls.length : Int) := by omega
    have l2' : 3 < (c.ts.length : Int) := by omega
    simp [-Bool.exists_bool, h1, hg, clB, lits_len, rws_len, l1, l1', l2, l2']
  by_cases l3 : c.cs.length ≤ 3
  rotate_left
  · have l1' : ¬ 5 < (c.ls.length : Int) := by omega
    have l2' : ¬ 3 < (c.ts.length : Int) := by omega
    have l3' : 3 < (c.cs.length : Int) := by omega
    simp [-Bool.exists_bool, h1, hg, clB, lits_len, rws_len, l1, l1', l2, l2', l3, l3']
  have l1' : ¬ 5 < (c.ls.length : Int) := by omega
  have l2' : ¬ 3 < (c.ts.length : Int) := by omega
  have l3' : ¬ 3 < (c.cs.length : Int) := by omega
  have h2 := w_litsmay z c.lz g e c.le (ls := c.ls) (by omega)
  have h3 := w_rowsmay z c.tz g e c.te (ts := c.ts) (by omega)
  have h4 := w_litsmay z c.cz g e c.ce (ls := c.cs) (by omega)
  cases b1 : litsB g c.ls
  · rw [b1] at h2
    cases b2 : rowsB g c.ts <;> cases b3 : litsB g c.cs <;> simp [-Bool.exists_bool, h1, hg, clB, lits_len, rws_len, l1, l1', l2, l2', l3, l3', h2, h3, h4, b1, b2, b3]
  cases b2 : rowsB g c.ts
  · rw [b2] at h3
    cases b3 : litsB g c.cs <;> simp [-Bool.exists_bool, h1, hg, clB, lits_len, rws_len, l1, l1', l2, l2', l3, l3', h2, h3, h4, b1, b2, b3]
  cases b3 : litsB g c.cs
  · simp [-Bool.exists_bool, h1, hg, clB, lits_len, rws_len, l1, l1', l2, l2', l3, l3', h2, h3, h4, b1, b2, b3]
  have k1 := lenL_le b1
  have k3 := lenL_le b3
  have k2 : lenR c.ts ≤ 48 * c.ts.length := by
    cases ht : c.ts with
    | nil => simp [lenR]
    | cons r tl => rw [ht] at b2; exact lenR_le b2
  rw [b1] at h2; rw [b2] at h3; rw [b3] at h4
  simp only [if_true] at h2 h3 h4
  have hw : IntKind.wrap .i64 (IntKind.wrap .i64 ((lenL c.ls : Int) + (lenR c.ts : Int)) + (lenL c.cs : Int)) = ((lenL c.ls + lenR c.ts + lenL c.cs : Nat) : Int) := by
    rw [wr ((lenL c.ls : Int) + (lenR c.ts : Int)) (by omega) (by omega), wr _ (by omega) (by omega)]; omega
  by_cases k : lenL c.ls + lenR c.ts + lenL c.cs ≤ 240
  · have k' : ((lenL c.ls + lenR c.ts + lenL c.cs : Nat) : Int) ≤ 240 := by omega
    simp [-Bool.exists_bool, -Int.natCast_add, h1, hg, clB, lits_len, rws_len, l1, l1', l2, l2', l3, l3', h2, h3, h4, b1, b2, b3, hw, k, k']
  · have k' : ¬ ((lenL c.ls + lenR c.ts + lenL c.cs : Nat) : Int) ≤ 240 := by omega
    simp [-Bool.exists_bool, -Int.natCast_add, h1, hg, clB, lits_len, rws_len, l1, l1', l2, l2', l3, l3', h2, h3, h4, b1, b2, b3, hw, k, k']
    omega
end Go.Proofs.YtollbcdhmnnjeaaDoor.Ab

/- Literals, clauses: what the reference's functions hand back; weights; copies. For every input; no condition. -/
set_option linter.unusedVariables false
set_option linter.unusedSimpArgs false
set_option maxRecDepth 100000
namespace Go.Proofs.YtollbcdhmnnjeaaDoor.Ab
open Go Go.Ab Go.Qu Go.Proofs
attribute [local simp] and_assoc
theorem atom_sig {g : List Sym} {a : List Int} (h : atomB g a = true) : sigB g = true := by
  cases a with
  | nil => simp [atomB] at h
  | cons p r =>
    simp only [atomB] at h
    split at h
    · cases h
    · split at h
      · cases h
      · simp only [Bool.and_eq_true] at h; exact h.1.2
/-- All rows of a clause. -/
def rowsOf (c : Cl) : List Row := c.ls.map (·.r) ++ c.ts ++ c.cs.map (·.r)
end Go.Proofs.YtollbcdhmnnjeaaDoor.Ab

/- Clauses: what the reference may; copies; the same. For every input; no condition. -/
set_option linter.unusedVariables false
set_option linter.unusedSimpArgs false
set_option maxRecDepth 100000
namespace Go.Proofs.YtollbcdhmnnjeaaDoor.Ab
open Go Go.Ab Go.Qu Go.Proofs
attribute [local simp] and_assoc
theorem terms_row {g : List Sym} (hg : sigB g = true) (r : List Int) : (rowB g r = true ∧ termsM g r = (termsN g r : Int)) ∨ (rowB g r = false ∧ termsM g r = -1) := by
  unfold rowB termsM termsN begsM
  cases h : rowP g r with
  | none => right; simp
  | some ts => left; simp [hg, begs_len]
theorem lits_all_at {g : List Sym} (ls : List LitR) : (∀ j, 0 ≤ j → j < ls.length → (match ls[j]? with | some l => atomB g l.r.l | none => true) = true) → litsB g ls = true := fun h => by
    unfold litsB
    rw [List.all_eq_true]
    intro l hl
    obtain ⟨i, hi, he⟩ := List.getElem_of_mem hl
    have := h i (Nat.zero_le _) hi
    rw [List.getElem?_eq_getElem hi, he] at this
    exact this
theorem lits_not_at {g : List Sym} (ls : List LitR) : (∃ j, 0 ≤ j ∧ j < ls.length ∧ (match ls[j]? with | some l => atomB g l.r.l | none => true) = false) → litsB g ls = false := fun ⟨j, _, hj, h⟩ => by
    unfold litsB
    rw [List.all_eq_false]
    refine ⟨ls[j], List.getElem_mem hj, ?_⟩
    rw [List.getElem?_eq_getElem hj] at h
    dsimp only at h
    rw [h]; simp
theorem lenR_append : ∀ (a b : List Row), lenR (a ++ b) = lenR a + lenR b
  | [], b => by simp [lenR]
  | r :: a, b => by simp [lenR, lenR_append a b]; omega
theorem lenR_map : ∀ (ls : List LitR), lenR (ls.map (·.r)) = lenL ls
  | [] => rfl
  | l :: ls => by simp [lenR, lenL, lenR_map ls]
theorem lenR_rowsOf (c : Cl) : lenR (rowsOf c) = lenL c.ls + lenR c.ts + lenL c.cs := by
  unfold rowsOf; rw [lenR_append, lenR_append, lenR_map, lenR_map]
theorem rowsOf_le {g : List Sym} {c : Cl} (h1 : litsB g c.ls = true) (h2 : rowsB g c.ts = true) (h3 : litsB g c.cs = true) : ∀ r ∈ rowsOf c, r.l.length ≤ 49 := by
  intro r hr
  unfold rowsOf at hr
  unfold litsB at h1 h3
  rw [List.all_eq_true] at h1 h3
  rcases List.mem_append.1 hr with hr | hr
  · rcases List.mem_append.1 hr with hr | hr
    · obtain ⟨l, hl, rfl⟩ := List.mem_map.1 hr
      exact (atom_codes (h1 l hl)).1
    · cases hts : c.ts with
      | nil => rw [hts] at hr; simp at hr
      | cons r0 tl =>
        rw [hts] at h2 hr
        unfold rowsB rowsF at h2
        rw [List.all_eq_true] at h2
        have := h2 r hr
        simp only [Bool.and_eq_true] at this
        have := rowB_len this.1
        omega
  · obtain ⟨l, hl, rfl⟩ := List.mem_map.1 hr
    exact (atom_codes (h3 l hl)).1
end Go.Proofs.YtollbcdhmnnjeaaDoor.Ab

/- Clauses: copies; the same. For every input; no condition. -/
set_option linter.unusedVariables false
set_option linter.unusedSimpArgs false
set_option maxRecDepth 100000
namespace Go.Proofs.YtollbcdhmnnjeaaDoor.Ab
open Go Go.Ab Go.Qu Go.Proofs
attribute [local simp] and_assoc
def freshL (l : LitR) : LitR := ⟨l.neg, fresh l.r⟩
def LitsIn (ls : List LitR) : Prop := ls.length * 32 ≤ 140737488351232 ∧ ∀ l ∈ ls, Len l.r.l
/-- What counts of literals. -/
def ks (l : LitR) : Bool × List Int := (l.neg, l.r.l)
theorem w_samelits {a : List LitR} (ha : LitsIn a) (b : List LitR) (z z' : Bool) (e e' : List D) : C 43 [iL z a e, iL z' b e'] = some (iB (decide (a.map ks = b.map ks)), [iL z a e, iL z' b e']) := by
  obtain ⟨hn, hr⟩ := ha
  refine wfn (lk := []) rfl rfl (fnW_way (q43 _ _ z (lits a) e z' (lits b) e' _) ?_)
  by_cases hl : a.length = b.length
  rotate_left
  · have e1 : ¬ (a.length : Int) = b.length := by omega
    have e2 : ¬ a.map ks = b.map ks := fun h => hl (by have := congrArg List.length h; simpa using this)
    simp [lits_len, e1, e2]
  rcases blk_all (F := F) (d := d43) (lk := []) (p := [1,1,0,1,0,0]) (p0 := [1,1,0,1]) (by kernel_rfl) (n := a.length) (id := 0) (st := fun i => [(0, iL z a e), (1, iL z' b e'), (5, iI i)]) (q := fun i => (a[i]?.map ks) == (b[i]?.map ks)) (rt := [(4, iB false)]) (e := [(0, iL z a e), (1, iL z' b e'), (5, iI a.length)])
    (fun i hi hq => by
      obtain ⟨x, hx⟩ := at_lt hi
      obtain ⟨y, hy⟩ := at_lt (show i < b.length by omega)
      have hxa := lits_at hx; have hya := lits_at hy
      simp [hx, hy, ks] at hq
      have hs := w_sameints (hr x (List.mem_of_getElem? hx)) y.r.l x.r.z y.r.z x.r.e y.r.e
      have hi' : (i : Int) < a.length := by omega
      rw [hq.2] at hs hxa
      refine wpQ_way (q43_l0a _ _ z (lits a) e z' (lits b) e' i _) ?_
      rw [hq.1] at hxa
      cases hneg : y.neg <;> rw [hneg] at hxa hya <;> simp [-Bool.exists_bool, -getElem?_pos, -Int.natCast_add, lits_len, wr1 hi (by omega), hi', hxa, hya, hs])
    (fun i hi hq => by
      obtain ⟨x, hx⟩ := at_lt hi
      obtain ⟨y, hy⟩ := at_lt (show i < b.length by omega)
      have hxa := lits_at hx; have hya := lits_at hy
      simp [hx, hy, ks] at hq
      have hs := w_sameints (hr x (List.mem_of_getElem? hx)) y.r.l x.r.z y.r.z x.r.e y.r.e
      have hi' : (i : Int) < a.length := by omega
      refine wpQ_way (q43_l0a _ _ z (lits a) e z' (lits b) e' i _) ?_
      cases hnx : x.neg <;> cases hny : y.neg <;> rw [hnx] at hxa <;> rw [hny] at hya <;> simp [hnx, hny] at hq <;> simp [-Bool.exists_bool, -getElem?_pos, -Int.natCast_add, lits_len, hi', hxa, hya, hs, hq])
    (wpQ_way (q43_l0a _ _ z (lits a) e z' (lits b) e' a.length _) (by simp [lits_len])) 0 (Nat.zero_le _) with ⟨h2, h3⟩ | ⟨⟨j, h2, h4, h5⟩, h3⟩
  · have hab : a.map ks = b.map ks := by
      refine List.ext_getElem? (fun i => ?_)
      by_cases hi : i < a.length
      · have := h2 i (Nat.zero_le _) hi
        simpa using this
      · rw [List.getElem?_eq_none (by simpa using hi), List.getElem?_eq_none (by simp; omega)]
    simp at h3
    simp [lits_len, hl, hab, h3]
  · have hab : ¬ a.map ks = b.map ks := fun h => by
      have := congrArg (·[j]?) h
      simp at this h5
      exact h5 this
    simp at h3
    simp [lits_len, hl, hab, h3]
/-- What a clause is made of. -/
structure ClIn (c : Cl) : Prop where
  ls : LitsIn c.ls
  most : c.ts.length * 24 ≤ 140737488351232
  rows : ∀ r ∈ c.ts, Len r.l
  cs : LitsIn c.cs
def clKey (c : Cl) : List (Bool × List Int) × List (List Int) × List (Bool × List Int) := (c.ls.map ks, c.ts.map (·.l), c.cs.map ks)
def freshC (c : Cl) : Cl := ⟨c.ls.isEmpty, c.ls.map freshL, [], c.ts.isEmpty, c.ts.map fresh, [], c.cs.isEmpty, c.cs.map freshL, []⟩
theorem freshC_key (c : Cl) : clKey (freshC c) = clKey c := by
  simp [clKey, freshC, freshL, fresh, ks]
theorem w_sameclause {c : Cl} (h : ClIn c) (c' : Cl) : C 18 [iC c, iC c'] = some (iB (decide (clKey c = clKey c')), [iC c, iC c']) := by
  refine wfn (lk := []) rfl rfl (fnW_way (q18 _ _ c.lz (lits c.ls) c.le c.tz (rws c.ts) c.te c.cz (lits c.cs) c.ce c'.lz (lits c'.ls) c'.le c'.tz (rws c'.ts) c'.te c'.cz (lits c'.cs) c'.ce _) ?_)
  have h1 := w_samelits h.ls c'.ls c.lz c'.lz c.le c'.le
  have h2 := w_samerows h.most h.rows c'.ts c.tz c'.tz c.te c'.te
  have h3 := w_samelits h.cs c'.cs c.cz c'.cz c.ce c'.ce
  refine ⟨_, _, _, h1, ?_⟩
  by_cases k1 : c.ls.map ks = c'.ls.map ks
  rotate_left
  · simp [k1, clKey]
  rw [decide_eq_true k1, condW_tt]
  refine ⟨_, _, _, h2, ?_⟩
  by_cases k2 : c.ts.map (·.l) = c'.ts.map (·.l)
  rotate_left
  · simp [k2, clKey]
  rw [decide_eq_true k2, condW_tt]
  refine ⟨_, _, _, h3, ?_⟩
  by_cases k3 : c.cs.map ks = c'.cs.map ks
  · simp [k1, k2, k3, clKey]
  · simp [k3, clKey]
end Go.Proofs.YtollbcdhmnnjeaaDoor.Ab

/- Clauses in their own form: each part once, variables numbered anew; what they are the same in. Plain lists; no condition. -/
set_option linter.unusedVariables false
set_option linter.unusedSimpArgs false
namespace Go.Qu
open Go Go.Ab

/-! ### Each once -/
/-- Rows of things of which none has the key of one ahead of it. -/
def onceK {α β : Type} [DecidableEq β] (k : α → β) : List α → List α → List α
  | out, [] => out
  | out, x :: r => if k x ∈ out.map k then onceK k out r else onceK k (out ++ [x]) r
theorem once_map {α β : Type} [DecidableEq β] (k : α → β) : ∀ (r out : List α), (onceK k out r).map k = onceK id (out.map k) (r.map k)
  | [], out => by simp [onceK]
  | x :: r, out => by
    simp only [onceK, List.map_cons, id_eq, List.map_id]
    by_cases h : k x ∈ out.map k
    · rw [if_pos h, if_pos (by simpa using h)]; exact once_map k r out
    · rw [if_neg h, if_neg (by simpa using h), once_map k r (out ++ [x])]; simp
theorem mem_once {β : Type} [DecidableEq β] : ∀ (r out : List β) (y : β), y ∈ onceK id out r ↔ y ∈ out ∨ y ∈ r
  | [], out, y => by simp [onceK]
  | x :: r, out, y => by
    simp only [onceK, id_eq, List.map_id]
    by_cases h : x ∈ out
    · rw [if_pos (by simpa using h), mem_once r out y]
      constructor
      · rintro (h1 | h1)
        · exact .inl h1
        · exact .inr (by simp [h1])
      · rintro (h1 | h1)
        · exact .inl h1
        · rcases List.mem_cons.1 h1 with h2 | h2
          · exact .inl (h2 ▸ h)
          · exact .inr h2
    · rw [if_neg (by simpa using h), mem_once r (out ++ [x]) y]; simp [or_assoc]
theorem once_nodup {β : Type} [DecidableEq β] : ∀ (r out : List β), out.Nodup → (onceK id out r).Nodup
  | [], out, h => by simpa [onceK] using h
  | x :: r, out, h => by
    simp only [onceK, id_eq, List.map_id]
    by_cases h1 : x ∈ out
    · rw [if_pos (by simpa using h1)]; exact once_nodup r out h
    · rw [if_neg (by simpa using h1)]
      refine once_nodup r _ ?_
      rw [List.nodup_append]
      exact ⟨h, by simp, fun a ha b hb => by simp at hb; subst hb; exact fun e => h1 (e ▸ ha)⟩
theorem once_same {β : Type} [DecidableEq β] : ∀ (r out : List β), (out ++ r).Nodup → onceK id out r = out ++ r
  | [], out, h => by simp [onceK]
  | x :: r, out, h => by
    have h1 : x ∉ out := fun hx => by
      rw [List.nodup_append] at h
      exact h.2.2 x hx x (by simp) rfl
    simp only [onceK, id_eq, List.map_id]
    rw [if_neg (by simpa using h1), once_same r (out ++ [x]) (by simpa using h)]; simp
/-- What is told of things alike is the same once through a way that holds them apart. -/
theorem once_inj {β γ : Type} [DecidableEq β] [DecidableEq γ] (f : β → γ) : ∀ (r out : List β), (∀ a ∈ out ++ r, ∀ b ∈ out ++ r, f a = f b → a = b) → onceK id (out.map f) (r.map f) = (onceK id out r).map f
  | [], out, h => by simp [onceK]
  | x :: r, out, h => by
    simp only [onceK, List.map_cons, id_eq, List.map_id]
    by_cases h1 : x ∈ out
    · rw [if_pos (List.mem_map_of_mem h1), if_pos h1]
      exact once_inj f r out (fun a ha b hb => h a (by simp at ha ⊢; rcases ha with h | h <;> simp [h]) b (by simp at hb ⊢; rcases hb with h | h <;> simp [h]))
    · rw [if_neg, if_neg h1]
      · have := once_inj f r (out ++ [x]) (fun a ha b hb => h a (by simpa using ha) b (by simpa using hb))
        rw [List.map_append] at this
        exact this
      · intro hm
        obtain ⟨y, hy, he⟩ := List.mem_map.1 hm
        have := h y (by simp [hy]) x (by simp) he
        exact h1 (this ▸ hy)
theorem once_len {α β : Type} [DecidableEq β] (k : α → β) : ∀ (r out : List α), (onceK k out r).length ≤ out.length + r.length
  | [], out => by simp [onceK]
  | x :: r, out => by
    simp only [onceK]
    split
    · have := once_len k r out; simp; omega
    · have := once_len k r (out ++ [x]); simp at this ⊢; omega
theorem once_sub {α β : Type} [DecidableEq β] (k : α → β) : ∀ (r out : List α) (y : α), y ∈ onceK k out r → y ∈ out ∨ y ∈ r
  | [], out, y, h => by simpa [onceK] using h
  | x :: r, out, y, h => by
    simp only [onceK] at h
    split at h
    · rcases once_sub k r out y h with h | h
      · exact .inl h
      · exact .inr (by simp [h])
    · rcases once_sub k r _ y h with h | h
      · simp at h; rcases h with h | h
        · exact .inl h
        · exact .inr (by simp [h])
      · exact .inr (by simp [h])
/-! ### Variables numbered anew -/
def addS (s : List Int) (c : Int) : List Int := if 0 ≤ c then s else if c ∈ s then s else s ++ [c]
def seenR (s : List Int) (r : List Int) : List Int := r.foldl addS s
def seenRs (s : List Int) (rs : List (List Int)) : List Int := rs.foldl seenR s
def renC (s : List Int) (c : Int) : Int := if 0 ≤ c then c else -1 - (s.idxOf c : Nat)
def renR (s : List Int) (r : List Int) : List Int := r.map (renC s)
theorem mem_addS {s : List Int} {c x : Int} : x ∈ addS s c ↔ x ∈ s ∨ (x = c ∧ c < 0) := by
  unfold addS
  split
  · constructor
    · exact .inl
    · rintro (h | ⟨h, h1⟩)
      · exact h
      · omega
  · split
    · constructor
      · exact .inl
      · rintro (h | ⟨h, h1⟩)
        · exact h
        · subst h; assumption
    · simp; constructor
      · rintro (h | h)
        · exact .inl h
        · exact .inr ⟨h, by omega⟩
      · rintro (h | ⟨h, h1⟩)
        · exact .inl h
        · exact .inr h
theorem mem_seenR : ∀ {r s : List Int} {x : Int}, x ∈ seenR s r ↔ x ∈ s ∨ (x ∈ r ∧ x < 0)
  | [], s, x => by simp [seenR]
  | c :: r, s, x => by
    have := mem_seenR (r := r) (s := addS s c) (x := x)
    rw [show seenR s (c :: r) = seenR (addS s c) r from rfl, this, mem_addS]
    constructor
    · rintro ((h | ⟨h, h1⟩) | ⟨h, h1⟩)
      · exact .inl h
      · exact .inr ⟨by simp [h], by omega⟩
      · exact .inr ⟨by simp [h], h1⟩
    · rintro (h | ⟨h, h1⟩)
      · exact .inl (.inl h)
      · rcases List.mem_cons.1 h with h2 | h2
        · exact .inl (.inr ⟨h2, by omega⟩)
        · exact .inr ⟨h2, h1⟩
theorem mem_seenRs : ∀ {rs : List (List Int)} {s : List Int} {x : Int}, x ∈ seenRs s rs ↔ x ∈ s ∨ (x < 0 ∧ ∃ r ∈ rs, x ∈ r)
  | [], s, x => by simp [seenRs]
  | r :: rs, s, x => by
    have := mem_seenRs (rs := rs) (s := seenR s r) (x := x)
    rw [show seenRs s (r :: rs) = seenRs (seenR s r) rs from rfl, this, mem_seenR]
    constructor
    · rintro ((h | ⟨h, h1⟩) | ⟨h1, t, ht, h⟩)
      · exact .inl h
      · exact .inr ⟨h1, r, by simp, h⟩
      · exact .inr ⟨h1, t, by simp [ht], h⟩
    · rintro (h | ⟨h1, t, ht, h⟩)
      · exact .inl (.inl h)
      · rcases List.mem_cons.1 ht with h2 | h2
        · subst h2; exact .inl (.inr ⟨h, h1⟩)
        · exact .inr ⟨h1, t, h2, h⟩
theorem nodup_addS {s : List Int} {c : Int} (h : s.Nodup) : (addS s c).Nodup := by
  unfold addS
  split
  · exact h
  · split
    · exact h
    · rename_i h1
      rw [List.nodup_append]
      exact ⟨h, by simp, fun a ha b hb => by simp at hb; subst hb; exact fun e => h1 (e ▸ ha)⟩
theorem nodup_seenR : ∀ {r s : List Int}, s.Nodup → (seenR s r).Nodup
  | [], s, h => h
  | c :: r, s, h => nodup_seenR (r := r) (nodup_addS h)
theorem nodup_seenRs : ∀ {rs : List (List Int)} {s : List Int}, s.Nodup → (seenRs s rs).Nodup
  | [], s, h => h
  | r :: rs, s, h => nodup_seenRs (rs := rs) (nodup_seenR h)
/-- What is seen later stands behind. -/
theorem pre_addS (s : List Int) (c : Int) : ∃ t, addS s c = s ++ t := by
  unfold addS
  split
  · exact ⟨[], by simp⟩
  · split
    · exact ⟨[], by simp⟩
    · exact ⟨_, rfl⟩
theorem pre_seenR : ∀ (r s : List Int), ∃ t, seenR s r = s ++ t
  | [], s => ⟨[], by simp [seenR]⟩
  | c :: r, s => by
    obtain ⟨t, ht⟩ := pre_addS s c
    obtain ⟨u, hu⟩ := pre_seenR r (addS s c)
    exact ⟨t ++ u, by rw [show seenR s (c :: r) = seenR (addS s c) r from rfl, hu, ht, List.append_assoc]⟩
theorem pre_seenRs : ∀ (rs : List (List Int)) (s : List Int), ∃ t, seenRs s rs = s ++ t
  | [], s => ⟨[], by simp [seenRs]⟩
  | r :: rs, s => by
    obtain ⟨t, ht⟩ := pre_seenR r s
    obtain ⟨u, hu⟩ := pre_seenRs rs (seenR s r)
    exact ⟨t ++ u, by rw [show seenRs s (r :: rs) = seenRs (seenR s r) rs from rfl, hu, ht, List.append_assoc]⟩
theorem idx_pre {s : List Int} (t : List Int) {c : Int} (h : c ∈ s) : (s ++ t).idxOf c = s.idxOf c := by
  rw [List.idxOf_append, if_pos h]
theorem ren_pre {s : List Int} (t : List Int) {c : Int} (h : c < 0 → c ∈ s) : renC (s ++ t) c = renC s c := by
  unfold renC
  split
  · rfl
  · rw [idx_pre t (h (by omega))]
theorem renR_pre {s : List Int} (t : List Int) {r : List Int} (h : ∀ c ∈ r, c < 0 → c ∈ s) : renR (s ++ t) r = renR s r :=
  List.map_congr_left fun c hc => ren_pre t (h c hc)
theorem ren_neg (s : List Int) (c : Int) : renC s c < 0 ↔ c < 0 := by unfold renC; split <;> omega
theorem ren_inj {s : List Int} {a b : Int} (ha : a < 0 → a ∈ s) (hb : b < 0 → b ∈ s) (h : renC s a = renC s b) : a = b := by
  by_cases h1 : 0 ≤ a <;> by_cases h2 : 0 ≤ b
  · simpa [renC, h1, h2] using h
  · simp [renC, h1, h2] at h; omega
  · simp [renC, h1, h2] at h; omega
  · simp only [renC, if_neg h1, if_neg h2] at h
    have h3 : s.idxOf a = s.idxOf b := by omega
    have k1 := List.getElem_idxOf (List.idxOf_lt_length_of_mem (ha (by omega)))
    have k2 := List.getElem_idxOf (List.idxOf_lt_length_of_mem (hb (by omega)))
    rw [← k1, ← k2]
    simp only [h3]
theorem renR_inj {s : List Int} : ∀ {a b : List Int}, (∀ c ∈ a, c < 0 → c ∈ s) → (∀ c ∈ b, c < 0 → c ∈ s) → renR s a = renR s b → a = b
  | [], [], _, _, _ => rfl
  | [], _ :: _, _, _, h => by simp [renR] at h
  | _ :: _, [], _, _, h => by simp [renR] at h
  | x :: a, y :: b, ha, hb, h => by
    simp only [renR, List.map_cons, List.cons.injEq] at h
    rw [ren_inj (ha x (by simp)) (hb y (by simp)) h.1, renR_inj (fun c hc => ha c (by simp [hc])) (fun c hc => hb c (by simp [hc])) h.2]
/-- The first so many variables. -/
def firsts (n : Nat) : List Int := (List.range n).map fun (i : Nat) => -1 - (i : Int)
theorem firsts_len (n : Nat) : (firsts n).length = n := by simp [firsts]
theorem firsts_succ (n : Nat) : firsts (n + 1) = firsts n ++ [-1 - (n : Int)] := by simp [firsts, List.range_succ]
theorem mem_firsts {n : Nat} {c : Int} : c ∈ firsts n ↔ c < 0 ∧ -1 - c < n := by
  simp only [firsts, List.mem_map, List.mem_range]
  constructor
  · rintro ⟨i, hi, h⟩; omega
  · intro h; exact ⟨(-1 - c).toNat, by omega, by omega⟩
theorem idx_firsts : ∀ {n : Nat} {c : Int}, c < 0 → -1 - c < n → ((firsts n).idxOf c : Int) = -1 - c
  | 0, c, h, h1 => by omega
  | n + 1, c, h, h1 => by
    rw [firsts_succ, List.idxOf_append]
    by_cases h2 : -1 - c < n
    · rw [if_pos (mem_firsts.2 ⟨h, h2⟩)]; exact idx_firsts h h2
    · rw [if_neg (fun h3 => h2 (mem_firsts.1 h3).2), firsts_len]
      have : c = -1 - (n : Int) := by omega
      subst this
      simp
      omega
/-- Of rows numbered anew the variables are the first ones. -/
theorem seen_ren_add {s : List Int} (t : List Int) {c : Int} (hs : (addS s c ++ t).Nodup) : addS (firsts s.length) (renC (addS s c ++ t) c) = firsts (addS s c).length := by
  unfold addS
  by_cases h0 : 0 ≤ c
  · have : renC (s ++ t) c = c := by simp [renC, h0]
    simp [h0, this]
  · by_cases h : c ∈ s
    · have h1 : renC (s ++ t) c = -1 - (s.idxOf c : Nat) := by simp [renC, h0, idx_pre t h]
      have h2 := List.idxOf_lt_length_of_mem h
      simp only [if_neg h0, if_pos h]
      rw [h1, if_neg (by omega), if_pos (mem_firsts.2 ⟨by omega, by omega⟩)]
    · have h1 : renC ((s ++ [c]) ++ t) c = -1 - (s.length : Nat) := by
        have : ((s ++ [c]) ++ t).idxOf c = s.length := by
          rw [List.append_assoc, List.idxOf_append, if_neg h]; simp
        rw [renC, if_neg h0, this]
      simp only [if_neg h0, if_neg h]
      rw [h1, if_neg (by omega), if_neg (fun h3 => by have := (mem_firsts.1 h3).2; omega), List.length_append, List.length_singleton, firsts_succ]
theorem seen_ren : ∀ (r s t : List Int), seenR (firsts s.length) (renR (seenR s r ++ t) r) = firsts (seenR s r).length ∨ ¬ (seenR s r ++ t).Nodup
  | [], s, t => by simp [seenR, renR]
  | c :: r, s, t => by
    by_cases hn : (seenR s (c :: r) ++ t).Nodup
    · left
      have e1 : seenR s (c :: r) = seenR (addS s c) r := rfl
      rw [e1] at hn ⊢
      obtain ⟨u, hu⟩ := pre_seenR r (addS s c)
      have h1 := seen_ren r (addS s c) t
      rcases h1 with h1 | h1
      · have h2 : addS (firsts s.length) (renC (seenR (addS s c) r ++ t) c) = firsts (addS s c).length := by
          rw [hu, List.append_assoc]
          exact seen_ren_add (u ++ t) (by rw [← List.append_assoc, ← hu]; exact hn)
        rw [← h1, ← h2]; rfl
      · exact absurd hn h1
    · exact .inr hn
theorem seens_ren : ∀ (rs : List (List Int)) (s t : List Int), (seenRs s rs ++ t).Nodup → seenRs (firsts s.length) (rs.map (renR (seenRs s rs ++ t))) = firsts (seenRs s rs).length
  | [], s, t, _ => rfl
  | r :: rs, s, t, hn => by
    have e1 : seenRs s (r :: rs) = seenRs (seenR s r) rs := rfl
    rw [e1] at hn ⊢
    obtain ⟨u, hu⟩ := pre_seenRs rs (seenR s r)
    have h1 := seens_ren rs (seenR s r) t hn
    rcases seen_ren r s (u ++ t) with h2 | h2
    · rw [← List.append_assoc, ← hu] at h2
      rw [← h1, ← h2]; rfl
    · rw [← List.append_assoc, ← hu] at h2; exact absurd hn h2
theorem ren_firsts {n : Nat} {c : Int} (h : c < 0 → -1 - c < n) : renC (firsts n) c = c := by
  unfold renC
  split
  · rfl
  · rw [idx_firsts (by omega) (h (by omega))]; omega
end Go.Qu

/- The normal clause: it may be, it is its own normal one, it weighs no more, its variables are the first ones. Plain lists; no condition. -/
set_option linter.unusedVariables false
set_option linter.unusedSimpArgs false
namespace Go.Qu
open Go Go.Ab

theorem sub_len {α : Type} [DecidableEq α] : ∀ (s t : List α), s.Nodup → (∀ x ∈ s, x ∈ t) → s.length ≤ t.length
  | [], t, _, _ => Nat.zero_le _
  | x :: s, t, hn, hs => by
    have hx := hs x (by simp)
    rw [List.nodup_cons] at hn
    have h1 := sub_len s (t.erase x) hn.2 (fun y hy => by
      have hne : y ≠ x := fun e => hn.1 (e ▸ hy)
      exact (List.mem_erase_of_ne hne).2 (hs y (by simp [hy])))
    rw [List.length_erase_of_mem hx] at h1
    have := List.length_pos_of_mem hx
    simp; omega
abbrev LC := Bool × List Int
def LitR.c (l : LitR) : LC := (l.neg, l.r.l)
structure CC where
  ls : List LC
  ts : List (List Int)
  cs : List LC
deriving DecidableEq
def Cl.c (c : Cl) : CC := ⟨c.ls.map LitR.c, c.ts.map (·.l), c.cs.map LitR.c⟩
def CC.rows (c : CC) : List (List Int) := c.ls.map (·.2) ++ c.ts ++ c.cs.map (·.2)
theorem in_ls {c : CC} {l : LC} (h : l ∈ c.ls) : l.2 ∈ c.rows := by
  rw [CC.rows, List.mem_append, List.mem_append]; exact .inl (.inl (List.mem_map_of_mem h))
theorem in_cs {c : CC} {l : LC} (h : l ∈ c.cs) : l.2 ∈ c.rows := by
  rw [CC.rows, List.mem_append, List.mem_append]; exact .inr (List.mem_map_of_mem h)
def onceC (c : CC) : CC := ⟨onceK id [] c.ls, onceK id [] c.ts, onceK id [] c.cs⟩
def renL (s : List Int) (l : LC) : LC := (l.1, renR s l.2)
def renCC (s : List Int) (c : CC) : CC := ⟨c.ls.map (renL s), c.ts.map (renR s), c.cs.map (renL s)⟩
def seenC (c : CC) : List Int := seenRs [] (onceC c).rows
def normC (c : CC) : CC := renCC (seenC c) (onceC c)
/-! ### What may be -/
def lenI : List (List Int) → Nat
  | [] => 0
  | r :: rs => r.length + lenI rs
def termsB (g : List Sym) (k : Nat) (ts : List (List Int)) : Bool := ts.all fun r => rowB g r && (termsN g r == k)
def tsB (g : List Sym) (ts : List (List Int)) : Bool := match ts with
  | [] => true
  | r :: _ => termsB g (termsN g r) ts
def lsB (g : List Sym) (ls : List LC) : Bool := ls.all fun l => atomB g l.2
def clC (g : List Sym) (c : CC) : Bool := sigB g && (decide (c.ls.length ≤ 5) && (decide (c.ts.length ≤ 3) && (decide (c.cs.length ≤ 3) && (lsB g c.ls && (tsB g c.ts && (lsB g c.cs && decide (lenI c.rows ≤ 240)))))))
theorem lenI_app : ∀ (a b : List (List Int)), lenI (a ++ b) = lenI a + lenI b
  | [], b => by simp [lenI]
  | r :: a, b => by simp [lenI, lenI_app a b]; omega
theorem lenL_c : ∀ (ls : List LitR), lenL ls = lenI ((ls.map LitR.c).map (·.2))
  | [] => rfl
  | l :: ls => by simp [lenL, lenI, lenL_c ls, LitR.c]
theorem lenR_c : ∀ (ts : List Row), lenR ts = lenI (ts.map (·.l))
  | [] => rfl
  | l :: ls => by simp [lenR, lenI, lenR_c ls]
theorem clB_c (g : List Sym) (c : Cl) : clB g c = clC g c.c := by
  have h1 : lenL c.ls + lenR c.ts + lenL c.cs = lenI c.c.rows := by
    rw [CC.rows, lenI_app, lenI_app, lenL_c, lenR_c, lenL_c]; rfl
  have h2 : rowsB g c.ts = tsB g (c.ts.map (·.l)) := by
    cases h : c.ts with
    | nil => rfl
    | cons r ts => simp [rowsB, tsB, rowsF, termsB, List.all_map, Function.comp_def]
  unfold clB clC
  rw [h1, h2]
  simp [Cl.c, litsB, lsB, List.all_map, Function.comp_def, LitR.c]
structure ClOk (g : List Sym) (c : CC) : Prop where
  sg : sigB g = true
  l5 : c.ls.length ≤ 5
  t3 : c.ts.length ≤ 3
  c3 : c.cs.length ≤ 3
  la : ∀ l ∈ c.ls, atomB g l.2 = true
  tr : ∃ k, ∀ r ∈ c.ts, rowB g r = true ∧ termsN g r = k
  ca : ∀ l ∈ c.cs, atomB g l.2 = true
  sum : lenI c.rows ≤ 240
theorem clOk {g : List Sym} {c : CC} : clC g c = true ↔ ClOk g c := by
  unfold clC
  simp only [Bool.and_eq_true, decide_eq_true_eq]
  constructor
  · rintro ⟨h1, h2, h3, h4, h5, h6, h7, h8⟩
    refine ⟨h1, h2, h3, h4, by simpa [lsB] using h5, ?_, by simpa [lsB] using h7, h8⟩
    cases h : c.ts with
    | nil => exact ⟨0, by simp⟩
    | cons r ts =>
      rw [h] at h6
      refine ⟨termsN g r, fun x hx => ?_⟩
      have := List.all_eq_true.1 h6 x hx
      simpa using this
  · rintro ⟨h1, h2, h3, h4, h5, ⟨k, h6⟩, h7, h8⟩
    refine ⟨h1, h2, h3, h4, by simpa [lsB] using h5, ?_, by simpa [lsB] using h7, h8⟩
    cases h : c.ts with
    | nil => rfl
    | cons r ts =>
      rw [h] at h6
      refine List.all_eq_true.2 fun x hx => ?_
      have := h6 x hx
      have := h6 r (by simp)
      simp_all
/-- Codes in rows of a clause that may be. -/
theorem cl_codes {g : List Sym} {c : CC} (h : ClOk g c) : ∀ r ∈ c.rows, ∀ x ∈ r, -24 ≤ x ∧ x < g.length := by
  intro r hr x hx
  rw [CC.rows, List.mem_append, List.mem_append] at hr
  rcases hr with (hr | hr) | hr
  · obtain ⟨l, hl, rfl⟩ := List.mem_map.1 hr
    exact (atom_codes (h.la l hl)).2.1 x hx
  · obtain ⟨k, hk⟩ := h.tr
    exact row_codes (hk r hr).1 x hx
  · obtain ⟨l, hl, rfl⟩ := List.mem_map.1 hr
    exact (atom_codes (h.ca l hl)).2.1 x hx
theorem mem_onceC {c : CC} {r : List Int} : r ∈ (onceC c).rows ↔ r ∈ c.rows := by
  simp only [CC.rows, onceC, List.mem_append, List.mem_map, mem_once, List.not_mem_nil, false_or]
theorem mem_seenC {c : CC} {x : Int} : x ∈ seenC c ↔ x < 0 ∧ ∃ r ∈ c.rows, x ∈ r := by
  rw [seenC, mem_seenRs]
  simp only [List.not_mem_nil, false_or, mem_onceC]
theorem seenC_nodup (c : CC) : (seenC c).Nodup := nodup_seenRs List.nodup_nil
theorem seenC_len {g : List Sym} {c : CC} (h : ClOk g c) : (seenC c).length ≤ 24 := by
  have := sub_len (seenC c) (firsts 24) (seenC_nodup c) (fun x hx => by
    obtain ⟨h1, r, hr, h2⟩ := mem_seenC.1 hx
    have := cl_codes h r hr x h2
    exact mem_firsts.2 ⟨h1, by omega⟩)
  rwa [firsts_len] at this
/-! ### Rows with other variables -/
theorem arOf_ren {g : List Sym} {s : List Int} (hs : s.length ≤ 24) {c : Int} (h1 : -24 ≤ c) (h2 : c < 0 → c ∈ s) : arOf g (renC s c) = arOf g c := by
  unfold renC
  split
  · rfl
  · have h3 := List.idxOf_lt_length_of_mem (h2 (by omega))
    rw [arOf, if_pos (by omega), if_pos (by omega), arOf, if_pos (by omega), if_pos (by omega)]
theorem lenN_map {g : List Sym} (f : Int → Int) : ∀ {r : List Int} (n : Nat), (∀ c ∈ r, arOf g (f c) = arOf g c) → lenN g (r.map f) n = lenN g r n
  | r, 0, h => by cases r <;> rfl
  | [], n + 1, h => rfl
  | c :: r, n + 1, h => by
    simp only [List.map_cons, lenN]
    rw [h c (by simp)]
    split
    · rfl
    · rename_i k hk
      rw [lenN_map f (r := r) (n + k) (fun x hx => h x (by simp [hx]))]
theorem parts_map {g : List Sym} (f : Int → Int) : ∀ (n : Nat) {r : List Int}, r.length ≤ n → (∀ c ∈ r, arOf g (f c) = arOf g c) → parts g (r.map f) = (parts g r).map (List.map (List.map f))
  | n, [], _, _ => by simp [parts_nil]
  | 0, c :: r, hn, _ => by simp at hn
  | n + 1, c :: r, hn, h => by
    have hl := lenN_map (g := g) f (r := c :: r) 1 h
    cases hk : lenN g (c :: r) 1 with
    | none =>
      rw [parts_none (by simp) (hl.trans hk), parts_none (by simp) hk]; rfl
    | some k =>
      have h1 := lenN_le hk
      rw [parts_some (by simp) (hl.trans hk), parts_some (by simp) hk, ← List.map_drop, ← List.map_take]
      have := parts_map f n (r := (c :: r).drop k) (by simp at hn ⊢; omega) (fun x hx => h x (List.mem_of_mem_drop hx))
      rw [this]
      cases parts g ((c :: r).drop k) <;> simp
theorem rowB_map {g : List Sym} (f : Int → Int) {r : List Int} (h : ∀ c ∈ r, arOf g (f c) = arOf g c) : rowB g (r.map f) = rowB g r ∧ termsN g (r.map f) = termsN g r := by
  have h1 := parts_map (g := g) f r.length (Nat.le_refl _) h
  constructor
  · simp only [rowB, rowP, List.length_map, h1]
    split <;> simp
  · simp only [termsN, begsM, rowP, List.length_map, h1]
    by_cases hl : r.length ≤ 48
    · simp only [if_pos hl]
      cases parts g r <;> simp <;> split <;> simp [begs_len]
    · simp only [if_neg hl]
theorem ren_row {g : List Sym} {s : List Int} (hs : s.length ≤ 24) {r : List Int} (h : rowB g r = true) (hm : ∀ c ∈ r, c < 0 → c ∈ s) : rowB g (renR s r) = true ∧ termsN g (renR s r) = termsN g r := by
  have h1 := rowB_map (g := g) (renC s) (r := r) (fun c hc => arOf_ren hs (row_codes h c hc).1 (hm c hc))
  exact ⟨h1.1.trans h, h1.2⟩
theorem ren_atom {g : List Sym} {s : List Int} (hs : s.length ≤ 24) {a : List Int} (h : atomB g a = true) (hm : ∀ c ∈ a, c < 0 → c ∈ s) : atomB g (renR s a) = true := by
  have hc := (atom_codes h).2.1
  cases a with
  | nil => exact h
  | cons p r =>
    have hp : ¬ p < 0 := fun hp => by simp [atomB, hp] at h
    have h0 : renC s p = p := by simp [renC]; intro; omega
    have h1 := parts_map (g := g) (renC s) r.length (r := r) (Nat.le_refl _) (fun c h2 => arOf_ren hs (hc c (by simp [h2])).1 (hm c (by simp [h2])))
    have h2 : rowP g (r.map (renC s)) = (rowP g r).map (List.map (List.map (renC s))) := by
      simp only [rowP, List.length_map, h1]; split <;> rfl
    rw [← h]
    simp only [renR, List.map_cons, atomB, h0, h2]
    split
    · rfl
    · split
      · rfl
      · cases rowP g r <;> simp
theorem lenI_map (f : List Int → List Int) (hf : ∀ r, (f r).length = r.length) : ∀ rs, lenI (rs.map f) = lenI rs
  | [] => rfl
  | r :: rs => by simp [lenI, hf, lenI_map f hf rs]
theorem ren_rows (s : List Int) (c : CC) : (renCC s c).rows = c.rows.map (renR s) := by
  simp [CC.rows, renCC, renL, Function.comp_def]
theorem lenI_once {α : Type} [DecidableEq α] (k : α → List Int) : ∀ (r out : List α), lenI ((onceK id out r).map k) ≤ lenI (out.map k) + lenI (r.map k)
  | [], out => by simp [onceK]
  | x :: r, out => by
    simp only [onceK]
    split
    · have := lenI_once k r out; simp [lenI]; omega
    · have := lenI_once k r (out ++ [x]); simp [lenI_app, lenI] at this ⊢; omega
theorem norm_ok {g : List Sym} {c : CC} (h : ClOk g c) : ClOk g (normC c) := by
  have hs := seenC_len h
  have hm : ∀ r ∈ c.rows, ∀ x ∈ r, x < 0 → x ∈ seenC c := fun r hr x hx h0 => mem_seenC.2 ⟨h0, r, hr, hx⟩
  have hin1 : ∀ l ∈ c.ls, l.2 ∈ c.rows := fun l hl => in_ls hl
  have hin2 : ∀ r ∈ c.ts, r ∈ c.rows := fun l hl => by simp [CC.rows, hl]
  have hin3 : ∀ l ∈ c.cs, l.2 ∈ c.rows := fun l hl => in_cs hl
  refine ⟨h.sg, ?_, ?_, ?_, ?_, ?_, ?_, ?_⟩
  · have := once_len id c.ls []; have := h.l5; simp [normC, renCC, onceC] at *; omega
  · have := once_len id c.ts []; have := h.t3; simp [normC, renCC, onceC] at *; omega
  · have := once_len id c.cs []; have := h.c3; simp [normC, renCC, onceC] at *; omega
  · intro l hl
    simp only [normC, renCC, onceC, List.mem_map] at hl
    obtain ⟨m, hm1, rfl⟩ := hl
    have h1 : m ∈ c.ls := by simpa using (mem_once c.ls [] m).1 hm1
    exact ren_atom hs (h.la m h1) (hm _ (hin1 m h1))
  · obtain ⟨k, hk⟩ := h.tr
    refine ⟨k, fun r hr => ?_⟩
    simp only [normC, renCC, onceC, List.mem_map] at hr
    obtain ⟨m, hm1, rfl⟩ := hr
    have h1 : m ∈ c.ts := by simpa using (mem_once c.ts [] m).1 hm1
    have h2 := ren_row hs (hk m h1).1 (hm _ (hin2 m h1))
    exact ⟨h2.1, h2.2.trans (hk m h1).2⟩
  · intro l hl
    simp only [normC, renCC, onceC, List.mem_map] at hl
    obtain ⟨m, hm1, rfl⟩ := hl
    have h1 : m ∈ c.cs := by simpa using (mem_once c.cs [] m).1 hm1
    exact ren_atom hs (h.ca m h1) (hm _ (hin3 m h1))
  · rw [normC, ren_rows, lenI_map _ (fun r => by simp [renR])]
    refine Nat.le_trans ?_ h.sum
    simp only [CC.rows, onceC, lenI_app]
    have h1 := lenI_once (fun l : LC => l.2) c.ls []
    have h2 := lenI_once (fun l : List Int => l) c.ts []
    have h3 := lenI_once (fun l : LC => l.2) c.cs []
    simp [lenI] at h1 h2 h3
    omega
/-! ### Its own normal one -/
theorem norm_norm (c : CC) : normC (normC c) = normC c := by
  have hm : ∀ r ∈ c.rows, ∀ x ∈ r, x < 0 → x ∈ seenC c := fun r hr x hx h0 => mem_seenC.2 ⟨h0, r, hr, hx⟩
  have hin1 : ∀ l ∈ (onceC c).ls, l.2 ∈ c.rows := fun l hl => mem_onceC.1 (in_ls hl)
  have hin2 : ∀ r ∈ (onceC c).ts, r ∈ c.rows := fun l hl => mem_onceC.1 (by simp [CC.rows, hl])
  have hin3 : ∀ l ∈ (onceC c).cs, l.2 ∈ c.rows := fun l hl => mem_onceC.1 (in_cs hl)
  have hL : ∀ (ls : List LC), ls.Nodup → (∀ l ∈ ls, l.2 ∈ c.rows) → onceK id [] (ls.map (renL (seenC c))) = ls.map (renL (seenC c)) := by
    intro ls hn hr
    have := once_inj (renL (seenC c)) ls [] (fun a ha b hb he => by
      simp at ha hb
      have h1 := congrArg Prod.fst he
      have h2 := renR_inj (hm _ (hr a ha)) (hm _ (hr b hb)) (congrArg Prod.snd he)
      exact Prod.ext h1 h2)
    simp only [List.map_nil] at this
    rw [this, once_same ls [] (by simpa using hn), List.nil_append]
  have hR : ∀ (ls : List (List Int)), ls.Nodup → (∀ l ∈ ls, l ∈ c.rows) → onceK id [] (ls.map (renR (seenC c))) = ls.map (renR (seenC c)) := by
    intro ls hn hr
    have := once_inj (renR (seenC c)) ls [] (fun a ha b hb he => by
      simp at ha hb
      exact renR_inj (hm _ (hr a ha)) (hm _ (hr b hb)) he)
    simp only [List.map_nil] at this
    rw [this, once_same ls [] (by simpa using hn), List.nil_append]
  have h1 : onceC (normC c) = normC c := by
    simp only [onceC, normC, renCC]
    have e1 := hL (onceC c).ls (once_nodup _ _ List.nodup_nil) hin1
    have e2 := hR (onceC c).ts (once_nodup _ _ List.nodup_nil) hin2
    have e3 := hL (onceC c).cs (once_nodup _ _ List.nodup_nil) hin3
    simp only [onceC] at e1 e2 e3
    rw [e1, e2, e3]
  have h2 : seenC (normC c) = firsts (seenC c).length := by
    rw [seenC, h1, normC, ren_rows]
    have := seens_ren (onceC c).rows [] [] (by rw [List.append_nil]; exact seenC_nodup c)
    rw [List.append_nil] at this
    exact this
  have h3 : ∀ r ∈ (onceC c).rows, renR (firsts (seenC c).length) (renR (seenC c) r) = renR (seenC c) r := by
    intro r hr
    rw [renR, renR, List.map_map]
    refine List.map_congr_left fun x hx => ?_
    refine ren_firsts fun h0 => ?_
    have h4 := (ren_neg (seenC c) x).1 h0
    have h5 := List.idxOf_lt_length_of_mem (hm r (mem_onceC.1 hr) x hx h4)
    rw [renC, if_neg (by omega)]; omega
  rw [normC, h1, h2]
  simp only [normC, renCC, List.map_map]
  congr 1
  · exact List.map_congr_left fun l hl => Prod.ext rfl (h3 l.2 (mem_onceC.2 (hin1 l hl)))
  · exact List.map_congr_left fun l hl => h3 l (mem_onceC.2 (hin2 l hl))
  · exact List.map_congr_left fun l hl => Prod.ext rfl (h3 l.2 (mem_onceC.2 (hin3 l hl)))
theorem seen_norm (c : CC) : seenC (normC c) = firsts (seenC c).length := by
  have hm : ∀ r ∈ c.rows, ∀ x ∈ r, x < 0 → x ∈ seenC c := fun r hr x hx h0 => mem_seenC.2 ⟨h0, r, hr, hx⟩
  have h0 := norm_norm c
  have h1 : onceC (normC c) = normC c := by
    have hn1 : ∀ (ls : List LC), ls.Nodup → onceK id [] ls = ls := fun ls h => by rw [once_same ls [] (by simpa using h)]; rfl
    have hin1 : ∀ l ∈ (onceC c).ls, l.2 ∈ c.rows := fun l hl => mem_onceC.1 (in_ls hl)
    have hin2 : ∀ r ∈ (onceC c).ts, r ∈ c.rows := fun l hl => mem_onceC.1 (by simp [CC.rows, hl])
    have hin3 : ∀ l ∈ (onceC c).cs, l.2 ∈ c.rows := fun l hl => mem_onceC.1 (in_cs hl)
    have hL : ∀ (ls : List LC), ls.Nodup → (∀ l ∈ ls, l.2 ∈ c.rows) → onceK id [] (ls.map (renL (seenC c))) = ls.map (renL (seenC c)) := by
      intro ls hn hr
      have := once_inj (renL (seenC c)) ls [] (fun a ha b hb he => by
        simp at ha hb
        have h1 := congrArg Prod.fst he
        have h2 := renR_inj (hm _ (hr a ha)) (hm _ (hr b hb)) (congrArg Prod.snd he)
        exact Prod.ext h1 h2)
      simp only [List.map_nil] at this
      rw [this, once_same ls [] (by simpa using hn), List.nil_append]
    have hR : ∀ (ls : List (List Int)), ls.Nodup → (∀ l ∈ ls, l ∈ c.rows) → onceK id [] (ls.map (renR (seenC c))) = ls.map (renR (seenC c)) := by
      intro ls hn hr
      have := once_inj (renR (seenC c)) ls [] (fun a ha b hb he => by
        simp at ha hb
        exact renR_inj (hm _ (hr a ha)) (hm _ (hr b hb)) he)
      simp only [List.map_nil] at this
      rw [this, once_same ls [] (by simpa using hn), List.nil_append]
    simp only [onceC, normC, renCC]
    have e1 := hL (onceC c).ls (once_nodup _ _ List.nodup_nil) hin1
    have e2 := hR (onceC c).ts (once_nodup _ _ List.nodup_nil) hin2
    have e3 := hL (onceC c).cs (once_nodup _ _ List.nodup_nil) hin3
    simp only [onceC] at e1 e2 e3
    rw [e1, e2, e3]
  rw [seenC, h1, normC, ren_rows]
  have := seens_ren (onceC c).rows [] [] (by rw [List.append_nil]; exact seenC_nodup c)
  rw [List.append_nil] at this
  exact this
/-! ### Weight, variables -/
def wtL (g : List Sym) : List LC → Int
  | [] => 0
  | l :: ls => sumW g l.2 + wtL g ls
theorem wtL_app (g : List Sym) : ∀ (a b : List LC), wtL g (a ++ b) = wtL g a + wtL g b
  | [], b => by simp [wtL]
  | l :: a, b => by simp [wtL, wtL_app g a b]; omega
theorem sumW_ren (g : List Sym) (s : List Int) : ∀ (r : List Int), sumW g (renR s r) = sumW g r
  | [] => rfl
  | c :: r => by
    have : codeW g (renC s c) = codeW g c := by
      unfold renC
      split
      · rfl
      · rw [codeW, if_pos (by omega), codeW, if_pos (by omega)]
    simp only [renR, List.map_cons, sumW]
    rw [this]; exact congrArg _ (sumW_ren g s r)
theorem wtL_ren (g : List Sym) (s : List Int) : ∀ (ls : List LC), wtL g (ls.map (renL s)) = wtL g ls
  | [] => rfl
  | l :: ls => by simp [wtL, renL, sumW_ren, wtL_ren g s ls]
theorem wtL_once (g : List Sym) : ∀ (r out : List LC), (∀ l ∈ r, 0 ≤ sumW g l.2) → wtL g (onceK id out r) ≤ wtL g out + wtL g r
  | [], out, h => by simp [onceK, wtL]
  | x :: r, out, h => by
    have h0 := h x (by simp)
    simp only [onceK]
    split
    · have := wtL_once g r out (fun l hl => h l (by simp [hl])); simp [wtL]; omega
    · have := wtL_once g r (out ++ [x]) (fun l hl => h l (by simp [hl])); simp [wtL_app, wtL] at this ⊢; omega
theorem wt_norm {g : List Sym} {c : CC} (h : ClOk g c) : wtL g (normC c).ls ≤ wtL g c.ls := by
  simp only [normC, renCC, wtL_ren, onceC]
  have := wtL_once g c.ls [] (fun l hl => by
    have h1 := sumW_le (sigOk h.sg) l.2 (atom_known (h.la l hl))
    omega)
  simpa [wtL] using this
/-- The variables of rows, as they rise. -/
def varsC (rs : List (List Int)) : List Int := rs.foldl seenF []
theorem mem_folds : ∀ {rs : List (List Int)} {vs : List Int} {x : Int}, x ∈ rs.foldl seenF vs ↔ x ∈ vs ∨ (0 ≤ x ∧ ∃ r ∈ rs, (-1 - x) ∈ r)
  | [], vs, x => by simp
  | r :: rs, vs, x => by
    rw [List.foldl_cons, mem_folds (rs := rs), mem_seen]
    constructor
    · rintro ((h | h) | ⟨h1, t, ht, h⟩)
      · exact .inl h
      · exact .inr ⟨h.1, r, by simp, h.2⟩
      · exact .inr ⟨h1, t, by simp [ht], h⟩
    · rintro (h | ⟨h1, t, ht, h⟩)
      · exact .inl (.inl h)
      · rcases List.mem_cons.1 ht with h2 | h2
        · subst h2; exact .inl (.inr ⟨h1, h⟩)
        · exact .inr ⟨h1, t, h2, h⟩
theorem up_folds : ∀ {rs : List (List Int)} {vs : List Int}, Up vs → Up (rs.foldl seenF vs)
  | [], vs, h => h
  | r :: rs, vs, h => up_folds (rs := rs) (up_seen h)
theorem vars_mem {rs : List (List Int)} {x : Int} : x ∈ varsC rs ↔ 0 ≤ x ∧ ∃ r ∈ rs, (-1 - x) ∈ r := by
  rw [varsC, mem_folds]; simp
/-- The variables do not hang on the rows' order. -/
theorem vars_ext {rs us : List (List Int)} (h : ∀ r, r ∈ rs ↔ r ∈ us) : varsC rs = varsC us :=
  up_ext (up_folds List.Pairwise.nil) (up_folds List.Pairwise.nil) fun x => by
    show x ∈ varsC rs ↔ x ∈ varsC us
    rw [vars_mem, vars_mem]; simp only [h]
theorem up_nodup {l : List Int} (h : Up l) : l.Nodup := h.imp fun hab e => by subst e; omega
theorem vars_flat {rs : List (List Int)} (h : ∀ r ∈ rs, ∀ c ∈ r, -24 ≤ c) : varsC rs = varsM rs.flatten := by
  have h1 : ∀ c ∈ rs.flatten, -24 ≤ c := fun c hc => by
    obtain ⟨r, hr, hc⟩ := List.mem_flatten.1 hc
    exact h r hr c hc
  rw [← seen_vars h1]
  refine up_ext (up_folds List.Pairwise.nil) (up_seen List.Pairwise.nil) fun x => ?_
  show x ∈ varsC rs ↔ _
  rw [vars_mem, mem_seen]
  simp [List.mem_flatten]
theorem vars_seen (c : CC) {x : Int} : x ∈ varsC c.rows ↔ 0 ≤ x ∧ (-1 - x) ∈ seenC c := by
  rw [vars_mem, mem_seenC]
  constructor
  · rintro ⟨h, r, hr⟩; exact ⟨h, by omega, r, hr⟩
  · rintro ⟨h, _, r, hr⟩; exact ⟨h, r, hr⟩
theorem vars_len (c : CC) : (varsC c.rows).length = (seenC c).length := by
  apply Nat.le_antisymm
  · have h1 : ((varsC c.rows).map fun x => -1 - x).Nodup := by
      have := up_nodup (l := varsC c.rows) (up_folds List.Pairwise.nil)
      rw [List.nodup_iff_pairwise_ne] at *
      exact List.pairwise_map.2 (this.imp fun h => by omega)
    have := sub_len _ (seenC c) h1 (fun x hx => by
      obtain ⟨y, hy, rfl⟩ := List.mem_map.1 hx
      exact ((vars_seen c).1 hy).2)
    rwa [List.length_map] at this
  · have h1 : ((seenC c).map fun x => -1 - x).Nodup := by
      have := seenC_nodup c
      rw [List.nodup_iff_pairwise_ne] at *
      exact List.pairwise_map.2 (this.imp fun h => by omega)
    have := sub_len _ (varsC c.rows) h1 (fun x hx => by
      obtain ⟨y, hy, rfl⟩ := List.mem_map.1 hx
      have := (mem_seenC.1 hy).1
      refine (vars_seen c).2 ⟨by omega, ?_⟩
      rw [show (-1 - (-1 - y) : Int) = y by omega]; exact hy)
    rwa [List.length_map] at this
theorem vars_norm (c : CC) : varsC (normC c).rows = (List.range (seenC c).length).map fun (i : Nat) => (i : Int) := by
  refine up_ext (up_folds List.Pairwise.nil) ?_ fun x => ?_
  · refine List.pairwise_map.2 ?_
    exact List.pairwise_lt_range.imp (fun h => by omega)
  · show x ∈ varsC _ ↔ _
    rw [vars_seen, seen_norm, mem_firsts]
    simp only [List.mem_map, List.mem_range]
    constructor
    · rintro ⟨h1, h2, h3⟩; exact ⟨x.toNat, by omega, by omega⟩
    · rintro ⟨i, hi, rfl⟩; omega
end Go.Qu

/- Clauses that say nothing: of some things one is at odds with another one just if one is with one ahead of it. Plain lists; no condition. -/
set_option linter.unusedVariables false
set_option linter.unusedSimpArgs false
namespace Go.Qu
open Go Go.Ab

/-- An equation of a term with itself. -/
def selfB (g : List Sym) (l : LC) : Bool := !l.1 && (gi l.2 0 == 0 && (match parts g l.2.tail with | some [x, y] => decide (x = y) | _ => false))
def oddB (l m : LC) : Bool := (l.1 != m.1) && decide (l.2 = m.2)
def trivB (g : List Sym) (ls : List LC) : Bool := ls.any fun l => selfB g l || ls.any (oddB l)
/-- With those ahead alone. -/
def dullB (g : List Sym) : List LC → List LC → Bool
  | _, [] => false
  | p, l :: ls => selfB g l || (p.any (oddB l) || dullB g (p ++ [l]) ls)
theorem odd_symm (l m : LC) : oddB l m = oddB m l := by
  unfold oddB
  congr 1
  · cases l.1 <;> cases m.1 <;> rfl
  · exact decide_eq_decide.2 eq_comm
theorem odd_self (l : LC) : oddB l l = false := by unfold oddB; cases l.1 <;> rfl
theorem dull_iff (g : List Sym) : ∀ (ls p : List LC), dullB g p ls = true ↔ (∃ l ∈ ls, selfB g l = true) ∨ (∃ i, ∃ m ∈ (p ++ ls).take i, ∃ l ∈ ls, (p ++ ls)[i]? = some l ∧ p.length ≤ i ∧ oddB l m = true)
  | [], p => by simp [dullB]
  | l :: ls, p => by
    have ih := dull_iff g ls (p ++ [l])
    simp only [dullB, Bool.or_eq_true, ih]
    constructor
    · rintro (h | h | ⟨x, hx, h⟩ | ⟨i, m, hm, x, hx, h1, h2, h3⟩)
      · exact .inl ⟨l, by simp, h⟩
      · obtain ⟨m, hm, h⟩ := List.any_eq_true.1 h
        exact .inr ⟨p.length, m, by simpa using hm, l, by simp, by simp, Nat.le_refl _, h⟩
      · exact .inl ⟨x, by simp [hx], h⟩
      · exact .inr ⟨i, m, by simpa using hm, x, by simp [hx], by simpa using h1, by simp at h2; omega, h3⟩
    · rintro (⟨x, hx, h⟩ | ⟨i, m, hm, x, hx, h1, h2, h3⟩)
      · rcases List.mem_cons.1 hx with h4 | h4
        · subst h4; exact .inl h
        · exact .inr (.inr (.inl ⟨x, h4, h⟩))
      · by_cases hi : i = p.length
        · subst hi
          have h4 : x = l := by simpa using h1.symm
          subst h4
          exact .inr (.inl (List.any_eq_true.2 ⟨m, by simpa using hm, h3⟩))
        · have h5 : (p ++ [l] ++ ls)[i]? = some x := by simpa using h1
          refine .inr (.inr (.inr ⟨i, m, by simpa using hm, x, ?_, h5, by simp; omega, h3⟩))
          rw [List.getElem?_append_right (by simp; omega)] at h5
          exact List.mem_of_getElem? h5
theorem triv_dull (g : List Sym) (ls : List LC) : dullB g [] ls = trivB g ls := by
  rw [Bool.eq_iff_iff, dull_iff]
  simp only [trivB, List.any_eq_true, Bool.or_eq_true, List.nil_append]
  constructor
  · rintro (⟨l, hl, h⟩ | ⟨i, m, hm, l, hl, h1, h2, h3⟩)
    · exact ⟨l, hl, .inl h⟩
    · exact ⟨l, hl, .inr ⟨m, List.mem_of_mem_take hm, h3⟩⟩
  · rintro ⟨l, hl, h | ⟨m, hm, h⟩⟩
    · exact .inl ⟨l, hl, h⟩
    · obtain ⟨i, hi, rfl⟩ := List.getElem_of_mem hl
      obtain ⟨j, hj, rfl⟩ := List.getElem_of_mem hm
      rcases Nat.lt_trichotomy i j with h4 | h4 | h4
      · refine .inr ⟨j, ls[i], ?_, ls[j], hm, by simp [hj], Nat.zero_le _, by rw [odd_symm]; exact h⟩
        rw [List.mem_take_iff_getElem]; exact ⟨i, by omega, rfl⟩
      · subst h4; rw [odd_self] at h; cases h
      · refine .inr ⟨i, ls[j], ?_, ls[i], hl, by simp [hi], Nat.zero_le _, h⟩
        rw [List.mem_take_iff_getElem]; exact ⟨j, by omega, rfl⟩
end Go.Qu

/- Clauses of which each part stands once: what the program's functions hand back. For every input; no condition. -/
set_option linter.unusedVariables false
set_option linter.unusedSimpArgs false
set_option maxRecDepth 100000
namespace Go.Proofs.YtollbcdhmnnjeaaDoor.Ab
open Go Go.Ab Go.Qu Go.Proofs
attribute [local simp] and_assoc
theorem litc_eq (l m : LitR) : (l.c = m.c) ↔ (l.neg = m.neg ∧ l.r.l = m.r.l) := by simp [LitR.c]
theorem w_litsame {b b' z z' : Bool} {a a' : List Int} {e e' : List D} (ha : Len a) : C 69 [iLit b z a e, iLit b' z' a' e'] = some (iB (decide ((b, a) = (b', a'))), [iLit b z a e, iLit b' z' a' e']) := by
  refine wfn (lk := []) rfl rfl (fnW_way (q69 _ _ b z (ints a) e b' z' (ints a') e' _) ?_)
  have h1 := w_equal ha a' z z' e e'
  by_cases h : a = a'
  · subst h
    cases b <;> cases b' <;> simp [-Bool.exists_bool, h1]
  · cases b <;> cases b' <;> simp [-Bool.exists_bool, h1, h]
/-- A literal as a variable that is lent. -/
abbrev pL (l : LitR) : IV := .dptr [.bool l.neg, .sl 1 l.r.z (ints l.r.l) l.r.e]
abbrev pR (r : Row) : IV := .dptr [.sl 1 r.z (ints r.l) r.e]
theorem w_once1 {l m : LitR} (hl : Len l.r.l) : C 68 [iLit m.neg m.r.z m.r.l m.r.e, pL l] = some (iB (decide (l.c = m.c)), [iLit m.neg m.r.z m.r.l m.r.e, pL l]) := by
  refine wfn (lk := []) rfl rfl (fnW_way (q68 _ _ m.neg m.r.z (ints m.r.l) m.r.e l.neg l.r.z (ints l.r.l) l.r.e _) ?_)
  have h1 := w_litsame (b := l.neg) (b' := m.neg) (z := l.r.z) (z' := m.r.z) (a' := m.r.l) (e := l.r.e) (e' := m.r.e) hl
  by_cases h : l.c = m.c
  · have h2 : (l.neg, l.r.l) = (m.neg, m.r.l) := h
    rw [h2] at h1
    simp [-Bool.exists_bool, h1, h2, h]
  · have h2 : ¬ (l.neg, l.r.l) = (m.neg, m.r.l) := h
    rw [decide_eq_false h2] at h1
    simp [-Bool.exists_bool, h1, h]
/-- The place of the first thing of which a question is told true. -/
def idxQ {α : Type} (q : α → Bool) (l : List α) : Int := match l.findIdx? q with | some i => i | none => -1
theorem idxQ_some {α : Type} {q : α → Bool} {l : List α} {j : Nat} (hj : j < l.length) (hq : q l[j] = true) (hk : ∀ k, k < j → ∀ x, l[k]? = some x → q x = false) : idxQ q l = (j : Int) := by
  have : l.findIdx? q = some j := by
    rw [List.findIdx?_eq_some_iff_getElem]
    exact ⟨hj, hq, fun k hk' => by
      have := hk k hk' l[k] (by simp)
      simp [this]⟩
  unfold idxQ; rw [this]
theorem idxQ_none {α : Type} {q : α → Bool} {l : List α} (hk : ∀ k, k < l.length → ∀ x, l[k]? = some x → q x = false) : idxQ q l = -1 := by
  have : l.findIdx? q = none := by
    rw [List.findIdx?_eq_none_iff]
    intro x hx
    obtain ⟨i, hi, rfl⟩ := List.getElem_of_mem hx
    exact hk i hi _ (by simp)
  unfold idxQ; rw [this]
theorem idxQ_any {α : Type} (q : α → Bool) (l : List α) : decide (idxQ q l ≥ 0) = l.any q := by
  unfold idxQ
  cases h : l.findIdx? q with
  | none =>
    have : l.any q = false := by
      rw [List.any_eq_false]
      intro x hx; simp [List.findIdx?_eq_none_iff.1 h x hx]
    rw [this]; rfl
  | some i =>
    have : l.any q = true := by
      obtain ⟨hi, hq, _⟩ := List.findIdx?_eq_some_iff_getElem.1 h
      exact List.any_eq_true.2 ⟨_, List.getElem_mem hi, hq⟩
    rw [this]; simp
theorem w_idxonce {l : LitR} (hl : Len l.r.l) {ls : List LitR} (hn : ls.length ≤ 1000) (z : Bool) (e : List D) : C 56 [iL z ls e, .fn 68 [pL l]] = some (iI (idxQ (fun m => decide (l.c = m.c)) ls), [iL z ls e, .fn 68 [pL l]]) := by
  refine wfn (lk := [1]) rfl rfl (fnW_way (q56 _ _ z (lits ls) e l.neg l.r.z (ints l.r.l) l.r.e _) ?_)
  have hl := blk_find (F := F) (d := d56) (lk := [1]) (p := [1,0,1,0,0]) (p0 := [1,0,1]) (by kernel_rfl) (n := ls.length) (id := 0) (st := fun i => [(0, iL z ls e), (1, .fn 68 [pL l]), (7, iI ls.length), (8, iI i)]) (q := fun i => match ls[i]? with | some m => decide (l.c = m.c) | none => false) (rt := fun i => [(1, .fn 68 [pL l]), (4, iI i)]) (e := [(0, iL z ls e), (1, .fn 68 [pL l]), (7, iI ls.length), (8, iI ls.length)])
    (fun i hi hq => by
      refine wpQ_way (q56_l0a _ _ z (lits ls) e l.neg l.r.z (ints l.r.l) l.r.e _ i _) ?_
      obtain ⟨m, hm⟩ := at_lt hi
      have h1 := w_once1 (l := l) (m := m) hl
      rw [hm] at hq
      dsimp only at hq
      rw [hq] at h1
      simp [-Bool.exists_bool, -getElem?_pos, -Int.natCast_add, wr1 hi (by omega), hi, lits_at hm, h1])
    (fun i hi hq => by
      refine wpQ_way (q56_l0a _ _ z (lits ls) e l.neg l.r.z (ints l.r.l) l.r.e _ i _) ?_
      obtain ⟨m, hm⟩ := at_lt hi
      have h1 := w_once1 (l := l) (m := m) hl
      rw [hm] at hq
      dsimp only at hq
      rw [hq] at h1
      simp [-Bool.exists_bool, -getElem?_pos, -Int.natCast_add, wr1 hi (by omega), hi, lits_at hm, h1])
    (wpQ_way (q56_l0a _ _ z (lits ls) e l.neg l.r.z (ints l.r.l) l.r.e _ ls.length _) (by simp)) 0 (Nat.zero_le _)
  rcases hl with ⟨h2, h3⟩ | ⟨j, h1, h2, h4, h5, h3⟩
  · rw [idxQ_none (fun k hk t ht => by have := h2 k (Nat.zero_le _) hk; rw [ht] at this; exact this)]
    rw [lits_len]
    exact .inr (.inl ⟨_, _, _, _, _, _, _, _, _, h3, rfl⟩)
  · rw [idxQ_some h2 (by have := h4; rw [List.getElem?_eq_getElem h2] at this; exact this) (fun k hk t ht => by have := h5 k (Nat.zero_le _) hk; rw [ht] at this; exact this)]
    rw [lits_len]
    exact .inl ⟨_, _, _, _, _, h3, rfl⟩
theorem w_hasonce {l : LitR} (hl : Len l.r.l) {ls : List LitR} (hn : ls.length ≤ 1000) (z : Bool) (e : List D) : C 67 [iL z ls e, .fn 68 [pL l]] = some (iB (decide (l.c ∈ ls.map LitR.c)), [iL z ls e, .fn 68 [pL l]]) := by
  refine wfn (lk := [1]) rfl rfl (fnW_way (q67 _ _ z (lits ls) e l.neg l.r.z (ints l.r.l) l.r.e _) ?_)
  have h1 := w_idxonce hl hn z e
  have h2 := idxQ_any (fun m => decide (l.c = m.c)) ls
  have h3 : (ls.any fun m => decide (l.c = m.c)) = decide (l.c ∈ ls.map LitR.c) := by
    rw [Bool.eq_iff_iff]
    simp only [List.any_eq_true, decide_eq_true_eq, List.mem_map]
    exact ⟨fun ⟨m, hm, h⟩ => ⟨m, hm, h.symm⟩, fun ⟨m, hm, h⟩ => ⟨m, hm, h.symm⟩⟩
  rw [h3] at h2
  rw [← h2]
  by_cases h : 0 ≤ idxQ (fun m => decide (l.c = m.c)) ls
  · simp [-Bool.exists_bool, h1, h]
  · simp [-Bool.exists_bool, h1, h]; omega
theorem w_clonce {ls : List LitR} (hn : ls.length ≤ 1000) (hl : ∀ l ∈ ls, Len l.r.l) (z : Bool) (e : List D) : C 58 [iL z ls e] = some (.own (onceK LitR.c [] ls).isEmpty 35 2 (lits (onceK LitR.c [] ls)), [iL z ls e]) := by
  refine wfn (lk := []) rfl rfl (fnW_way (q58 _ _ z (lits ls) e _) ?_)
  have h1 := fun x hx => blk_fun (F := F) (d := d58) (lk := []) (p := [1,1,0,1,0,0]) (p0 := [1,1,0,1]) (id := 0) (by kernel_rfl) (st := fun (x : List LitR × Nat) => [(3, .own x.1.isEmpty 35 2 (lits x.1)), (6, iL z ls e), (7, iI ls.length), (8, iI x.2)]) (I := fun x => x.2 ≤ ls.length ∧ x.1.length ≤ x.2) (μ := fun x => ls.length - x.2)
    (res := fun x => .norm [(3, .own (onceK LitR.c x.1 (ls.drop x.2)).isEmpty 35 2 (lits (onceK LitR.c x.1 (ls.drop x.2)))), (6, iL z ls e), (7, iI ls.length), (8, iI ls.length)])
    (fun x hx => by
      obtain ⟨us, i⟩ := x
      obtain ⟨hx1, hx2⟩ := hx
      dsimp only at hx1 hx2
      by_cases hi : i < ls.length
      · obtain ⟨l, hl1⟩ := at_lt hi
        have hd : ls.drop i = l :: ls.drop (i + 1) := by
          rw [List.drop_eq_getElem_cons hi]
          rw [List.getElem?_eq_getElem hi] at hl1
          cases hl1; rfl
        have hlm : l ∈ ls := List.mem_of_getElem? hl1
        have hc := w_hasonce (hl l hlm) (ls := us) (by omega) us.isEmpty []
        have hi' : (i : Int) < ls.length := by omega
        by_cases hm : l.c ∈ us.map LitR.c
        · rw [decide_eq_true hm] at hc
          refine .go (us, i + 1) (wpQ_way (q58_l0a _ _ us.isEmpty (lits us) z (lits ls) e _ i _) ?_) ⟨by dsimp only; omega, by dsimp only; omega⟩ (by dsimp only; omega) ?_
          · simp [-Bool.exists_bool, -getElem?_pos, -Int.natCast_add, hi', lits_at hl1, hc, wr1 hi (by omega)]
          · dsimp only; rw [hd, onceK, if_pos hm]
        · rw [decide_eq_false hm] at hc
          refine .go (us ++ [l], i + 1) (wpQ_way (q58_l0a _ _ us.isEmpty (lits us) z (lits ls) e _ i _) ?_) ⟨by dsimp only; omega, by simp; omega⟩ (by dsimp only; omega) ?_
          · have k1 : us.length + 1 ≤ 9223372036854775807 := by omega
            have k2 : (us.length + 1) * 32 ≤ 140737488355328 := by omega
            simp [-Bool.exists_bool, -getElem?_pos, -Int.natCast_add, hi', lits_at hl1, hc, wr1 hi (by omega), lits_len, k1, k2, lits_append, lits_cons, lits_nil, D.cells]
          · dsimp only; rw [hd, onceK, if_neg hm]
      · have e1 : i = ls.length := by omega
        subst e1
        refine .stop (.exit 0 [(3, .own us.isEmpty 35 2 (lits us)), (6, iL z ls e), (7, iI ls.length), (8, iI ls.length)]) (wpQ_way (q58_l0a _ _ us.isEmpty (lits us) z (lits ls) e _ _ _) (by simp)) rfl ?_
        simp [blkO, onceK]) x hx
  have h2 : evP F (Go.Ab.W F) (JW F d58 []) d58 [] [1,1,0,1] [(3, .own true 35 2 []), (6, iL z ls e), (7, iI ls.length), (8, iI 0)] = _ := h1 ([], 0) ⟨Nat.zero_le _, Nat.le_refl _⟩
  rw [List.drop_zero] at h2
  simp [-Bool.exists_bool, lits_len, h2]
/-! ### Rows -/
theorem w_anew1 {r : Row} (hr : Len r.l) (z : Bool) (u : List Int) (e : List D) : C 60 [iS z u e, pR r] = some (iB (decide (r.l = u)), [iS z u e, pR r]) := by
  refine wfn (lk := []) rfl rfl (fnW_way (q60 _ _ z (ints u) e r.z (ints r.l) r.e _) ?_)
  have h1 := w_equal hr u r.z z r.e e
  by_cases h : r.l = u
  · subst h; simp [-Bool.exists_bool, h1]
  · simp [-Bool.exists_bool, h1, h]
theorem w_idxrow {r : Row} (hr : Len r.l) {ts : List Row} (hn : ts.length ≤ 1000) (z : Bool) (e : List D) : C 70 [iR z ts e, .fn 60 [pR r]] = some (iI (idxQ (fun u => decide (r.l = u.l)) ts), [iR z ts e, .fn 60 [pR r]]) := by
  refine wfn (lk := [1]) rfl rfl (fnW_way (q70 _ _ z (rws ts) e r.z (ints r.l) r.e _) ?_)
  have hl := blk_find (F := F) (d := d70) (lk := [1]) (p := [1,0,1,0,0]) (p0 := [1,0,1]) (by kernel_rfl) (n := ts.length) (id := 0) (st := fun i => [(0, iR z ts e), (1, .fn 60 [pR r]), (7, iI ts.length), (8, iI i)]) (q := fun i => match ts[i]? with | some u => decide (r.l = u.l) | none => false) (rt := fun i => [(1, .fn 60 [pR r]), (4, iI i)]) (e := [(0, iR z ts e), (1, .fn 60 [pR r]), (7, iI ts.length), (8, iI ts.length)])
    (fun i hi hq => by
      refine wpQ_way (q70_l0a _ _ z (rws ts) e r.z (ints r.l) r.e _ i _) ?_
      obtain ⟨m, hm⟩ := at_lt hi
      have h1 := w_anew1 hr m.z m.l m.e
      rw [hm] at hq
      dsimp only at hq
      rw [hq] at h1
      simp [-Bool.exists_bool, -getElem?_pos, -Int.natCast_add, wr1 hi (by omega), hi, rws_at hm, h1])
    (fun i hi hq => by
      refine wpQ_way (q70_l0a _ _ z (rws ts) e r.z (ints r.l) r.e _ i _) ?_
      obtain ⟨m, hm⟩ := at_lt hi
      have h1 := w_anew1 hr m.z m.l m.e
      rw [hm] at hq
      dsimp only at hq
      rw [hq] at h1
      simp [-Bool.exists_bool, -getElem?_pos, -Int.natCast_add, wr1 hi (by omega), hi, rws_at hm, h1])
    (wpQ_way (q70_l0a _ _ z (rws ts) e r.z (ints r.l) r.e _ ts.length _) (by simp)) 0 (Nat.zero_le _)
  rcases hl with ⟨h2, h3⟩ | ⟨j, h1, h2, h4, h5, h3⟩
  · rw [idxQ_none (fun k hk t ht => by have := h2 k (Nat.zero_le _) hk; rw [ht] at this; exact this)]
    rw [rws_len]
    exact .inr ⟨_, _, _, _, _, _, _, _, h3, rfl⟩
  · rw [idxQ_some h2 (by have := h4; rw [List.getElem?_eq_getElem h2] at this; exact this) (fun k hk t ht => by have := h5 k (Nat.zero_le _) hk; rw [ht] at this; exact this)]
    rw [rws_len]
    exact .inl ⟨_, _, _, _, h3, rfl⟩
theorem w_hasrow {r : Row} (hr : Len r.l) {ts : List Row} (hn : ts.length ≤ 1000) (z : Bool) (e : List D) : C 59 [iR z ts e, .fn 60 [pR r]] = some (iB (decide (r.l ∈ ts.map (·.l))), [iR z ts e, .fn 60 [pR r]]) := by
  refine wfn (lk := [1]) rfl rfl (fnW_way (q59 _ _ z (rws ts) e r.z (ints r.l) r.e _) ?_)
  have h1 := w_idxrow hr hn z e
  have h2 := idxQ_any (fun u => decide (r.l = u.l)) ts
  have h3 : (ts.any fun u => decide (r.l = u.l)) = decide (r.l ∈ ts.map (·.l)) := by
    rw [Bool.eq_iff_iff]
    simp only [List.any_eq_true, decide_eq_true_eq, List.mem_map]
    exact ⟨fun ⟨m, hm, h⟩ => ⟨m, hm, h.symm⟩, fun ⟨m, hm, h⟩ => ⟨m, hm, h.symm⟩⟩
  rw [h3] at h2
  rw [← h2]
  by_cases h : 0 ≤ idxQ (fun u => decide (r.l = u.l)) ts
  · simp [-Bool.exists_bool, h1, h]
  · simp [-Bool.exists_bool, h1, h]; omega
theorem w_clone {t : List Int} (ht : Len t) (z : Bool) (hz : z = true → t = []) (e : List D) : C 34 [iS z t e] = some (.own z 3 1 (ints t), [iS z t e]) := by
  refine wfn (lk := []) rfl rfl (fnW_way (q34 _ _ z (ints t) e _) ?_)
  cases z with
  | true => have := hz rfl; subst this; simp [-Bool.exists_bool, ints_nil]
  | false =>
    have h1 : (ints t).length ≤ 9223372036854775807 := by rw [ints_len]; unfold Len at ht; omega
    have h2 : (ints t).length * 8 ≤ 140737488355328 := by rw [ints_len]; unfold Len at ht; omega
    simp [-Bool.exists_bool, h1, h2]
end Go.Proofs.YtollbcdhmnnjeaaDoor.Ab

/- Clauses with their variables numbered anew: what the program's functions hand back. For every input; no condition. -/
set_option linter.unusedVariables false
set_option linter.unusedSimpArgs false
set_option maxRecDepth 100000
namespace Go.Proofs.YtollbcdhmnnjeaaDoor.Ab
open Go Go.Ab Go.Qu Go.Proofs
attribute [local simp] and_assoc
/-- The table of what variables are called. -/
def toA (s : List Int) : List Int := (List.range 24).map fun (v : Nat) => if (-1 - (v : Int)) ∈ s then ((s.idxOf (-1 - (v : Int)) + 1 : Nat) : Int) else 0
theorem toA_len (s : List Int) : (toA s).length = 24 := by simp [toA]
theorem toA_at (s : List Int) {v : Nat} (hv : v < 24) : (ints (toA s))[v]? = some (.int .i64 (if (-1 - (v : Int)) ∈ s then ((s.idxOf (-1 - (v : Int)) + 1 : Nat) : Int) else 0)) := by
  simp [ints, toA, hv]
theorem toA_set {s : List Int} {v : Nat} (hv : v < 24) (hs : ¬ (-1 - (v : Int)) ∈ s) : (ints (toA s)).set v (.int .i64 ((s.length + 1 : Nat) : Int)) = ints (toA (s ++ [-1 - (v : Int)])) := by
  have h1 : (toA s).set v ((s.length + 1 : Nat) : Int) = toA (s ++ [-1 - (v : Int)]) := by
    refine List.ext_getElem (by simp [toA]) (fun i h1 h2 => ?_)
    have hi : i < 24 := by simpa [toA] using h1
    rw [List.getElem_set]
    by_cases hvi : v = i
    · subst hvi
      rw [if_pos rfl]
      simp only [toA, List.getElem_map, List.getElem_range]
      rw [if_pos (by simp), List.idxOf_append, if_neg hs]
      simp
    · rw [if_neg hvi]
      simp only [toA, List.getElem_map, List.getElem_range, List.mem_append, List.mem_singleton]
      have hne : ¬ (-1 - (i : Int)) = -1 - (v : Int) := by omega
      by_cases hm : (-1 - (i : Int)) ∈ s
      · rw [if_pos hm, if_pos (.inl hm), List.idxOf_append, if_pos hm]
      · rw [if_neg hm, if_neg (by rintro (h | h); exact hm h; exact hne h)]
  rw [← h1]; simp [ints, List.map_set]
/-- A row's codes one by one, as the variables come up. -/
def stepR : List Int → List Int → List Int
  | _, [] => []
  | s, c :: r => renC (addS s c) c :: stepR (addS s c) r
theorem stepR_ren : ∀ (r s : List Int), stepR s r = renR (seenR s r) r
  | [], s => rfl
  | c :: r, s => by
    obtain ⟨t, ht⟩ := pre_seenR r (addS s c)
    have h1 : renC (seenR (addS s c) r) c = renC (addS s c) c := by
      rw [ht]; exact ren_pre t (fun h0 => mem_addS.2 (.inr ⟨rfl, h0⟩))
    show renC (addS s c) c :: stepR (addS s c) r = renR (seenR (addS s c) r) (c :: r)
    rw [renR, List.map_cons, h1, stepR_ren r (addS s c)]; rfl
theorem ints_mid (a b : List Int) (c : Int) : (ints (a ++ c :: b))[a.length]? = some (.int .i64 c) := by simp [ints]
theorem ints_midset (a b : List Int) (c d : Int) : (ints (a ++ c :: b)).set a.length (.int .i64 d) = ints (a ++ d :: b) := by simp [ints]
/-- Variables of which there are twenty-four at most. -/
structure SeenOk (s : List Int) : Prop where
  nd : s.Nodup
  neg : ∀ c ∈ s, c < 0 ∧ -24 ≤ c
theorem SeenOk.len {s : List Int} (h : SeenOk s) : s.length ≤ 24 := by
  have := sub_len s (firsts 24) h.nd (fun x hx => mem_firsts.2 ⟨(h.neg x hx).1, by have := (h.neg x hx).2; omega⟩)
  rwa [firsts_len] at this
theorem SeenOk.add {s : List Int} (h : SeenOk s) {c : Int} (hc : -24 ≤ c) : SeenOk (addS s c) :=
  ⟨nodup_addS h.nd, fun x hx => by
    rcases mem_addS.1 hx with h1 | ⟨rfl, h1⟩
    · exact h.neg x h1
    · exact ⟨h1, hc⟩⟩
theorem SeenOk.row : ∀ {r s : List Int}, SeenOk s → (∀ c ∈ r, -24 ≤ c) → SeenOk (seenR s r)
  | [], s, h, _ => h
  | c :: r, s, h, hc => SeenOk.row (r := r) (h.add (hc c (by simp))) (fun x hx => hc x (by simp [hx]))
theorem SeenOk.rows : ∀ {rs : List (List Int)} {s : List Int}, SeenOk s → (∀ r ∈ rs, ∀ c ∈ r, -24 ≤ c) → SeenOk (seenRs s rs)
  | [], s, h, _ => h
  | r :: rs, s, h, hc => SeenOk.rows (rs := rs) (h.row (hc r (by simp))) (fun x hx => hc x (by simp [hx]))
theorem w_anew2 {r : List Int} (hr : Len r) (z : Bool) (hz : z = true → r = []) (hc : ∀ c ∈ r, -24 ≤ c) (e : List D) {s : List Int} (hs : SeenOk s) : C 61 [iS z r e, .dbox 98 0 (ints (toA s)), .dbox 3 0 [.int .i64 s.length]] = some (.own z 3 1 (ints (stepR s r)), [iS z r e, .dbox 98 0 (ints (toA (seenR s r))), .dbox 3 0 [.int .i64 (seenR s r).length]]) := by
  refine wfn (lk := [1, 2]) rfl rfl (fnW_way (q61 _ _ z (ints r) e (ints (toA s)) s.length _) ?_)
  have hcl := w_clone hr z hz e
  have h1 := fun x hx => blk_fun (F := F) (d := d61) (lk := [1, 2]) (p := [1,1,0,1,0,0]) (p0 := [1,1,0,1]) (id := 0) (by kernel_rfl) (st := fun (x : List Int × List Int × List Int) => [(1, .dbox 98 0 (ints (toA x.2.2))), (2, .dbox 3 0 [.int .i64 x.2.2.length]), (5, .own z 3 1 (ints (x.1 ++ x.2.1))), (11, iI r.length), (12, iI x.1.length), (2010045, .dead)]) (I := fun x => x.1.length + x.2.1.length = r.length ∧ SeenOk x.2.2 ∧ ∀ c ∈ x.2.1, -24 ≤ c) (μ := fun x => x.2.1.length)
    (res := fun x => .norm [(1, .dbox 98 0 (ints (toA (seenR x.2.2 x.2.1)))), (2, .dbox 3 0 [.int .i64 (seenR x.2.2 x.2.1).length]), (5, .own z 3 1 (ints (x.1 ++ stepR x.2.2 x.2.1))), (11, iI r.length), (12, iI r.length), (2010045, .dead)])
    (fun x hx => by
      obtain ⟨a, b, s⟩ := x
      obtain ⟨hx1, hx2, hx3⟩ := hx
      dsimp only at hx1 hx2 hx3
      cases b with
      | nil =>
        have e1 : a.length = r.length := by simpa using hx1
        refine .stop (.exit 0 [(1, .dbox 98 0 (ints (toA s))), (2, .dbox 3 0 [.int .i64 s.length]), (5, .own z 3 1 (ints (a ++ []))), (11, iI r.length), (12, iI a.length), (2010045, .dead)]) (wpQ_way (q61_l0a _ _ (ints (toA s)) s.length z (ints (a ++ [])) r.length a.length _) (by simp [e1])) rfl ?_
        simp [blkO, e1, stepR, seenR]
      | cons c b =>
        have hlen : a.length < r.length := by simp at hx1; omega
        have hi' : (a.length : Int) < r.length := by omega
        have hi0 : (0 : Int) ≤ (a.length : Int) := by omega
        have hr' : r.length ≤ 9223372036854775807 := by unfold Len at hr; omega
        have hc := hx3 c (by simp)
        have hok := hx2.len
        have ha := ints_mid a b c
        have hw1 : IntKind.wrap .i64 ((a.length : Int) + 1) = ((a ++ [renC (addS s c) c]).length : Int) := by rw [wr1 hlen hr']; simp
        have hst : ∀ d : Int, a ++ d :: b = (a ++ [d]) ++ b := fun d => by simp
        by_cases h0 : 0 ≤ c
        · have hs' : addS s c = s := by simp [addS, h0]
          have hrc : renC s c = c := by simp [renC, h0]
          have h0n : ¬ c < 0 := by omega
          refine .go (a ++ [c], b, s) (wpQ_way (q61_l0a _ _ (ints (toA s)) s.length z (ints (a ++ c :: b)) r.length a.length _) ?_) ⟨by simp at hx1 ⊢; omega, hx2, fun x hx => hx3 x (by simp [hx])⟩ (by simp) ?_
          · rw [hs', hrc] at hw1
            simp [-Bool.exists_bool, -getElem?_pos, -Int.natCast_add, -List.length_append, hi', ha, h0, h0n, hw1]
          · dsimp only; rw [stepR, hs', hrc]; simp [seenR, hs']
        · have hn := w_number c
          have hv1 : IntKind.wrap .i64 (-1 - c) = ((-1 - c).toNat : Int) := by rw [wr _ (by omega) (by omega)]; omega
          obtain ⟨v, hv⟩ : ∃ v : Nat, v = (-1 - c).toNat := ⟨_, rfl⟩
          have hcv : c = -1 - (v : Int) := by omega
          have hv24 : v < 24 := by omega
          rw [hv1, ← hv] at hn
          have hta := toA_at s hv24
          rw [← hcv] at hta
          have hvi : (v : Int) < 24 := by omega
          by_cases hm : c ∈ s
          · have hs' : addS s c = s := by simp [addS, h0, hm]
            have hrc : renC s c = -1 - (s.idxOf c : Nat) := by simp [renC, h0]
            rw [if_pos hm] at hta
            have hne : ¬ ((s.idxOf c + 1 : Nat) : Int) = 0 := by omega
            have hil := List.idxOf_lt_length_of_mem hm
            have hw2 : IntKind.wrap .i64 (0 - ((s.idxOf c + 1 : Nat) : Int)) = renC s c := by rw [wr _ (by omega) (by omega), hrc]; omega
            have hw2n := hw2
            rw [Int.zero_sub] at hw2n
            refine .go (a ++ [renC s c], b, s) (wpQ_way (q61_l0a _ _ (ints (toA s)) s.length z (ints (a ++ c :: b)) r.length a.length _) ?_) ⟨by simp at hx1 ⊢; omega, hx2, fun x hx => hx3 x (by simp [hx])⟩ (by simp) ?_
            · rw [hs'] at hw1
              have hset := ints_midset a b c (renC s c)
              simp [-Bool.exists_bool, -getElem?_pos, -Int.natCast_add, -List.length_append, hi', ha, h0, hw1, hn, hta, hvi, hne, hw2, hw2n, hset]
            · dsimp only; rw [stepR, hs']; simp [seenR, hs']
          · have hs' : addS s c = s ++ [c] := by simp [addS, h0, hm]
            have hrc : renC (s ++ [c]) c = -1 - (s.length : Nat) := by
              rw [renC, if_neg h0, List.idxOf_append, if_neg hm]; simp
            rw [if_neg hm] at hta
            have hw2 : IntKind.wrap .i64 ((s.length : Int) + 1) = ((s.length + 1 : Nat) : Int) := by rw [wr _ (by omega) (by omega)]; omega
            have hw3 : IntKind.wrap .i64 (0 - ((s.length + 1 : Nat) : Int)) = renC (s ++ [c]) c := by rw [wr _ (by omega) (by omega), hrc]; omega
            have hw3n := hw3
            rw [Int.zero_sub] at hw3n
            have hm' : ¬ (-1 - (v : Int)) ∈ s := by rw [← hcv]; exact hm
            have hset := toA_set hv24 hm'
            rw [← hcv] at hset
            have hta2 := toA_at (s ++ [c]) hv24
            rw [← hcv, if_pos (by simp), List.idxOf_append, if_neg hm] at hta2
            have hix : List.idxOf c [c] + s.length + 1 = s.length + 1 := by simp
            rw [hix] at hta2
            refine .go (a ++ [renC (s ++ [c]) c], b, s ++ [c]) (wpQ_way (q61_l0a _ _ (ints (toA s)) s.length z (ints (a ++ c :: b)) r.length a.length _) ?_) ⟨by simp at hx1 ⊢; omega, by rw [← hs']; exact hx2.add hc, fun x hx => hx3 x (by simp [hx])⟩ (by simp) ?_
            · rw [hs'] at hw1
              have hset2 := ints_midset a b c (renC (s ++ [c]) c)
              have hv23 : (v : Int) ≤ 23 := by omega
              have hlt : v + 1 ≤ 24 := hv24
              have hls : ((s ++ [c]).length : Int) = ((s.length + 1 : Nat) : Int) := by simp
              rw [hls]
              simp [-Bool.exists_bool, -getElem?_pos, -Int.natCast_add, -List.length_append, hi', ha, h0, hw1, hn, hta, hvi, hw2, hw3, hw3n, hset2, hset, hta2, hv23, ints_len, toA_len, hlt, D.cells, setR]
            · dsimp only; rw [stepR, hs']; simp [seenR, hs']) x hx
  have h2 : evP F (Go.Ab.W F) (JW F d61 [1, 2]) d61 [1, 2] [1,1,0,1] [(1, .dbox 98 0 (ints (toA s))), (2, .dbox 3 0 [.int .i64 s.length]), (5, .own z 3 1 (ints r)), (11, iI r.length), (12, iI 0), (2010045, .dead)] = _ := h1 ([], r, s) ⟨by simp, hs, hc⟩
  rw [List.nil_append] at h2
  refine ⟨_, _, _, hcl, ?_⟩
  rw [ints_len]
  exact ⟨_, _, _, _, _, _, h2, rfl⟩
/-- Literals, rows, one by one. -/
def eachL : List Int → List LitR → List LitR
  | _, [] => []
  | s, l :: ls => ⟨l.neg, ⟨l.r.z, stepR s l.r.l, []⟩⟩ :: eachL (seenR s l.r.l) ls
def eachR : List Int → List Row → List Row
  | _, [] => []
  | s, r :: rs => ⟨r.z, stepR s r.l, []⟩ :: eachR (seenR s r.l) rs
structure RowOk (r : Row) : Prop where
  len : Len r.l
  nil : r.z = true → r.l = []
  cod : ∀ c ∈ r.l, -24 ≤ c
abbrev seenLs (s : List Int) (ls : List LitR) : List Int := seenRs s (ls.map fun l => l.r.l)
abbrev seenTs (s : List Int) (ts : List Row) : List Int := seenRs s (ts.map fun r => r.l)
abbrev fA (s : List Int) : IV := .fn 61 [.dbox 98 0 (ints (toA s)), .dbox 3 0 [.int .i64 s.length]]
abbrev bC (c : Cl) : IV := .dbox 39 0 [.sl 2 c.lz (lits c.ls) c.le, .sl 1 c.tz (rws c.ts) c.te, .sl 2 c.cz (lits c.cs) c.ce]
abbrev b0 : IV := .dbox 39 0 [.sl 2 true [] [], .sl 1 true [] [], .sl 2 true [] []]
abbrev bO (us : List LitR) (vs : List Row) (ws : List LitR) : IV := .ptr 39 0 [.own us.isEmpty 35 2 (lits us), .own vs.isEmpty 23 1 (rws vs), .own ws.isEmpty 35 2 (lits ws)]
theorem l_each0 {c : Cl} (hn : c.ls.length ≤ 1000) (hr : ∀ l ∈ c.ls, RowOk l.r) (vs : List Row) (ws : List LitR) (x : List LitR × Nat × List Int) (hx : x.2.1 ≤ c.ls.length ∧ x.1.length = x.2.1 ∧ SeenOk x.2.2) : evP F (Go.Ab.W F) (JW F d55 [1]) d55 [1] [1,1,0,1] [(1, fA x.2.2), (2, bC c), (4, b0), (5, bO x.1 vs ws), (13, iL c.lz c.ls c.le), (14, iI c.ls.length), (15, iI x.2.1)] = some (.norm [(1, fA (seenLs x.2.2 (c.ls.drop x.2.1))), (2, bC c), (4, b0), (5, bO (x.1 ++ eachL x.2.2 (c.ls.drop x.2.1)) vs ws), (13, iL c.lz c.ls c.le), (14, iI c.ls.length), (15, iI c.ls.length)]) :=
  blk_fun (F := F) (d := d55) (lk := [1]) (p := [1,1,0,1,0,0]) (p0 := [1,1,0,1]) (id := 0) (by kernel_rfl) (st := fun (x : List LitR × Nat × List Int) => [(1, fA x.2.2), (2, bC c), (4, b0), (5, bO x.1 vs ws), (13, iL c.lz c.ls c.le), (14, iI c.ls.length), (15, iI x.2.1)]) (I := fun x => x.2.1 ≤ c.ls.length ∧ x.1.length = x.2.1 ∧ SeenOk x.2.2) (μ := fun x => c.ls.length - x.2.1)
    (res := fun x => .norm [(1, fA (seenLs x.2.2 (c.ls.drop x.2.1))), (2, bC c), (4, b0), (5, bO (x.1 ++ eachL x.2.2 (c.ls.drop x.2.1)) vs ws), (13, iL c.lz c.ls c.le), (14, iI c.ls.length), (15, iI c.ls.length)])
    (fun x hx => by
      obtain ⟨us, i, s⟩ := x
      obtain ⟨hx1, hx2, hx3⟩ := hx
      dsimp only at hx1 hx2 hx3
      by_cases hi : i < c.ls.length
      · obtain ⟨l, hl1⟩ := at_lt hi
        have hd : c.ls.drop i = l :: c.ls.drop (i + 1) := by
          rw [List.drop_eq_getElem_cons hi]
          rw [List.getElem?_eq_getElem hi] at hl1
          cases hl1; rfl
        have hok := hr l (List.mem_of_getElem? hl1)
        have hc := w_anew2 hok.len l.r.z hok.nil hok.cod l.r.e hx3
        have hi' : (i : Int) < c.ls.length := by omega
        refine .go (us ++ [⟨l.neg, ⟨l.r.z, stepR s l.r.l, []⟩⟩], i + 1, seenR s l.r.l) (wpQ_way (q55_l0a _ _ (ints (toA s)) s.length c.lz (lits c.ls) c.le c.tz (rws c.ts) c.te c.cz (lits c.cs) c.ce us.isEmpty (lits us) vs.isEmpty (rws vs) ws.isEmpty (lits ws) c.lz (lits c.ls) c.le c.ls.length i _) ?_) ⟨by dsimp only; omega, by simp; omega, hx3.row hok.cod⟩ (by dsimp only; omega) ?_
        · have k1 : us.length + 1 ≤ 9223372036854775807 := by omega
          have k2 : (us.length + 1) * 32 ≤ 140737488355328 := by omega
          cases hneg : l.neg <;> simp [-Bool.exists_bool, -getElem?_pos, -Int.natCast_add, hi', lits_at hl1, hneg, hc, wr1 hi (by omega), lits_len, k1, k2, lits_append, lits_cons, lits_nil]
        · dsimp only; rw [hd]; simp [eachL, seenRs]
      · have e1 : i = c.ls.length := by omega
        subst e1
        refine .stop (.exit 0 [(1, fA s), (2, bC c), (4, b0), (5, bO us vs ws), (13, iL c.lz c.ls c.le), (14, iI c.ls.length), (15, iI c.ls.length)]) (wpQ_way (q55_l0a _ _ (ints (toA s)) s.length c.lz (lits c.ls) c.le c.tz (rws c.ts) c.te c.cz (lits c.cs) c.ce us.isEmpty (lits us) vs.isEmpty (rws vs) ws.isEmpty (lits ws) c.lz (lits c.ls) c.le c.ls.length _ _) (by simp)) rfl ?_
        simp [blkO, eachL, seenRs]) x hx
theorem l_each2 {c : Cl} (hn : c.ts.length ≤ 1000) (hr : ∀ r ∈ c.ts, RowOk r) (us : List LitR) (ws : List LitR) (x : List Row × Nat × List Int) (hx : x.2.1 ≤ c.ts.length ∧ x.1.length = x.2.1 ∧ SeenOk x.2.2) : evP F (Go.Ab.W F) (JW F d55 [1]) d55 [1] [1,1,1,0,1] [(1, fA x.2.2), (2, bC c), (4, b0), (5, bO us x.1 ws), (33, iR c.tz c.ts c.te), (34, iI c.ts.length), (35, iI x.2.1)] = some (.norm [(1, fA (seenTs x.2.2 (c.ts.drop x.2.1))), (2, bC c), (4, b0), (5, bO us (x.1 ++ eachR x.2.2 (c.ts.drop x.2.1)) ws), (33, iR c.tz c.ts c.te), (34, iI c.ts.length), (35, iI c.ts.length)]) :=
  blk_fun (F := F) (d := d55) (lk := [1]) (p := [1,1,1,0,1,0,0]) (p0 := [1,1,1,0,1]) (id := 2) (by kernel_rfl) (st := fun (x : List Row × Nat × List Int) => [(1, fA x.2.2), (2, bC c), (4, b0), (5, bO us x.1 ws), (33, iR c.tz c.ts c.te), (34, iI c.ts.length), (35, iI x.2.1)]) (I := fun x => x.2.1 ≤ c.ts.length ∧ x.1.length = x.2.1 ∧ SeenOk x.2.2) (μ := fun x => c.ts.length - x.2.1)
    (res := fun x => .norm [(1, fA (seenTs x.2.2 (c.ts.drop x.2.1))), (2, bC c), (4, b0), (5, bO us (x.1 ++ eachR x.2.2 (c.ts.drop x.2.1)) ws), (33, iR c.tz c.ts c.te), (34, iI c.ts.length), (35, iI c.ts.length)])
    (fun x hx => by
      obtain ⟨vs, i, s⟩ := x
      obtain ⟨hx1, hx2, hx3⟩ := hx
      dsimp only at hx1 hx2 hx3
      by_cases hi : i < c.ts.length
      · obtain ⟨l, hl1⟩ := at_lt hi
        have hd : c.ts.drop i = l :: c.ts.drop (i + 1) := by
          rw [List.drop_eq_getElem_cons hi]
          rw [List.getElem?_eq_getElem hi] at hl1
          cases hl1; rfl
        have hok := hr l (List.mem_of_getElem? hl1)
        have hc := w_anew2 hok.len l.z hok.nil hok.cod l.e hx3
        have hi' : (i : Int) < c.ts.length := by omega
        refine .go (vs ++ [⟨l.z, stepR s l.l, []⟩], i + 1, seenR s l.l) (wpQ_way (q55_l2a _ _ (ints (toA s)) s.length c.lz (lits c.ls) c.le c.tz (rws c.ts) c.te c.cz (lits c.cs) c.ce us.isEmpty (lits us) vs.isEmpty (rws vs) ws.isEmpty (lits ws) c.tz (rws c.ts) c.te c.ts.length i _) ?_) ⟨by dsimp only; omega, by simp; omega, hx3.row hok.cod⟩ (by dsimp only; omega) ?_
        · have k1 : vs.length + 1 ≤ 9223372036854775807 := by omega
          have k2 : (vs.length + 1) * 24 ≤ 140737488355328 := by omega
          simp [-Bool.exists_bool, -getElem?_pos, -Int.natCast_add, hi', rws_at hl1, hc, wr1 hi (by omega), rws_len, k1, k2, rws_append, rws_cons, rws_nil]
        · dsimp only; rw [hd]; simp [eachR, seenRs]
      · have e1 : i = c.ts.length := by omega
        subst e1
        refine .stop (.exit 2 [(1, fA s), (2, bC c), (4, b0), (5, bO us vs ws), (33, iR c.tz c.ts c.te), (34, iI c.ts.length), (35, iI c.ts.length)]) (wpQ_way (q55_l2a _ _ (ints (toA s)) s.length c.lz (lits c.ls) c.le c.tz (rws c.ts) c.te c.cz (lits c.cs) c.ce us.isEmpty (lits us) vs.isEmpty (rws vs) ws.isEmpty (lits ws) c.tz (rws c.ts) c.te c.ts.length _ _) (by simp)) rfl ?_
        simp [blkO, eachR, seenRs]) x hx
theorem l_each4 {c : Cl} (hn : c.cs.length ≤ 1000) (hr : ∀ l ∈ c.cs, RowOk l.r) (us : List LitR) (vs : List Row) (x : List LitR × Nat × List Int) (hx : x.2.1 ≤ c.cs.length ∧ x.1.length = x.2.1 ∧ SeenOk x.2.2) : evP F (Go.Ab.W F) (JW F d55 [1]) d55 [1] [1,1,1,1,0,1] [(1, fA x.2.2), (4, b0), (5, bO us vs x.1), (49, iL c.cz c.cs c.ce), (50, iI c.cs.length), (51, iI x.2.1)] = some (.norm [(1, fA (seenLs x.2.2 (c.cs.drop x.2.1))), (4, b0), (5, bO us vs (x.1 ++ eachL x.2.2 (c.cs.drop x.2.1))), (49, iL c.cz c.cs c.ce), (50, iI c.cs.length), (51, iI c.cs.length)]) :=
  blk_fun (F := F) (d := d55) (lk := [1]) (p := [1,1,1,1,0,1,0,0]) (p0 := [1,1,1,1,0,1]) (id := 4) (by kernel_rfl) (st := fun (x : List LitR × Nat × List Int) => [(1, fA x.2.2), (4, b0), (5, bO us vs x.1), (49, iL c.cz c.cs c.ce), (50, iI c.cs.length), (51, iI x.2.1)]) (I := fun x => x.2.1 ≤ c.cs.length ∧ x.1.length = x.2.1 ∧ SeenOk x.2.2) (μ := fun x => c.cs.length - x.2.1)
    (res := fun x => .norm [(1, fA (seenLs x.2.2 (c.cs.drop x.2.1))), (4, b0), (5, bO us vs (x.1 ++ eachL x.2.2 (c.cs.drop x.2.1))), (49, iL c.cz c.cs c.ce), (50, iI c.cs.length), (51, iI c.cs.length)])
    (fun x hx => by
      obtain ⟨ws, i, s⟩ := x
      obtain ⟨hx1, hx2, hx3⟩ := hx
      dsimp only at hx1 hx2 hx3
      by_cases hi : i < c.cs.length
      · obtain ⟨l, hl1⟩ := at_lt hi
        have hd : c.cs.drop i = l :: c.cs.drop (i + 1) := by
          rw [List.drop_eq_getElem_cons hi]
          rw [List.getElem?_eq_getElem hi] at hl1
          cases hl1; rfl
        have hok := hr l (List.mem_of_getElem? hl1)
        have hc := w_anew2 hok.len l.r.z hok.nil hok.cod l.r.e hx3
        have hi' : (i : Int) < c.cs.length := by omega
        refine .go (ws ++ [⟨l.neg, ⟨l.r.z, stepR s l.r.l, []⟩⟩], i + 1, seenR s l.r.l) (wpQ_way (q55_l4a _ _ (ints (toA s)) s.length us.isEmpty (lits us) vs.isEmpty (rws vs) ws.isEmpty (lits ws) c.cz (lits c.cs) c.ce c.cs.length i _) ?_) ⟨by dsimp only; omega, by simp; omega, hx3.row hok.cod⟩ (by dsimp only; omega) ?_
        · have k1 : ws.length + 1 ≤ 9223372036854775807 := by omega
          have k2 : (ws.length + 1) * 32 ≤ 140737488355328 := by omega
          cases hneg : l.neg <;> simp [-Bool.exists_bool, -getElem?_pos, -Int.natCast_add, hi', lits_at hl1, hneg, hc, wr1 hi (by omega), lits_len, k1, k2, lits_append, lits_cons, lits_nil]
        · dsimp only; rw [hd]; simp [eachL, seenRs]
      · have e1 : i = c.cs.length := by omega
        subst e1
        refine .stop (.exit 4 [(1, fA s), (4, b0), (5, bO us vs ws), (49, iL c.cz c.cs c.ce), (50, iI c.cs.length), (51, iI c.cs.length)]) (wpQ_way (q55_l4a _ _ (ints (toA s)) s.length us.isEmpty (lits us) vs.isEmpty (rws vs) ws.isEmpty (lits ws) c.cz (lits c.cs) c.ce c.cs.length _ _) (by simp)) rfl ?_
        simp [blkO, eachL, seenRs]) x hx
structure ClRow (c : Cl) : Prop where
  l5 : c.ls.length ≤ 1000
  t3 : c.ts.length ≤ 1000
  c3 : c.cs.length ≤ 1000
  ls : ∀ l ∈ c.ls, RowOk l.r
  ts : ∀ r ∈ c.ts, RowOk r
  cs : ∀ l ∈ c.cs, RowOk l.r
theorem w_each {c : Cl} (h : ClRow c) {s : List Int} (hs : SeenOk s) : C 55 [iC c, fA s] = some (.agg [.own (eachL s c.ls).isEmpty 35 2 (lits (eachL s c.ls)), .own (eachR (seenLs s c.ls) c.ts).isEmpty 23 1 (rws (eachR (seenLs s c.ls) c.ts)), .own (eachL (seenTs (seenLs s c.ls) c.ts) c.cs).isEmpty 35 2 (lits (eachL (seenTs (seenLs s c.ls) c.ts) c.cs))], [iC c, fA (seenLs (seenTs (seenLs s c.ls) c.ts) c.cs)]) := by
  refine wfn (lk := [1]) rfl rfl (fnW_way (q55 _ _ c.lz (lits c.ls) c.le c.tz (rws c.ts) c.te c.cz (lits c.cs) c.ce (ints (toA s)) s.length _) ?_)
  have hs1 : SeenOk (seenLs s c.ls) := hs.rows (fun r hr => by
    obtain ⟨l, hl, rfl⟩ := List.mem_map.1 hr
    exact (h.ls l hl).cod)
  have hs2 : SeenOk (seenTs (seenLs s c.ls) c.ts) := hs1.rows (fun r hr => by
    obtain ⟨l, hl, rfl⟩ := List.mem_map.1 hr
    exact (h.ts l hl).cod)
  have h1 := l_each0 h.l5 h.ls [] [] ([], 0, s) ⟨Nat.zero_le _, rfl, hs⟩
  have h2 := l_each2 h.t3 h.ts (eachL s c.ls) [] ([], 0, seenLs s c.ls) ⟨Nat.zero_le _, rfl, hs1⟩
  have h3 := l_each4 h.c3 h.cs (eachL s c.ls) (eachR (seenLs s c.ls) c.ts) ([], 0, seenTs (seenLs s c.ls) c.ts) ⟨Nat.zero_le _, rfl, hs2⟩
  simp only [List.drop_zero, List.nil_append] at h1 h2 h3
  rw [lits_len]
  refine .inl ⟨_, _, _, _, _, _, _, _, _, _, _, _, _, _, _, _, _, _, _, _, _, _, h1, ?_⟩
  rw [rws_len]
  refine .inl ⟨_, _, _, _, _, _, _, _, _, _, _, _, _, _, _, _, _, _, _, _, _, _, h2, ?_⟩
  rw [lits_len]
  exact .inl ⟨_, _, _, _, _, _, _, _, _, _, _, _, _, h3, rfl⟩
end Go.Proofs.YtollbcdhmnnjeaaDoor.Ab

/- Normal clauses, clauses that are the same: what the program's functions hand back. For every input; no condition. -/
set_option linter.unusedVariables false
set_option linter.unusedSimpArgs false
set_option maxRecDepth 100000
namespace Go.Proofs.YtollbcdhmnnjeaaDoor.Ab
open Go Go.Ab Go.Qu Go.Proofs
attribute [local simp] and_assoc
theorem seenR_self {s r : List Int} : ∀ c ∈ r, c < 0 → c ∈ seenR s r := fun c hc h0 => mem_seenR.2 (.inr ⟨hc, h0⟩)
theorem eachL_c : ∀ (ls : List LitR) (s t : List Int), (eachL s ls).map LitR.c = ls.map fun l => (l.neg, renR (seenLs s ls ++ t) l.r.l)
  | [], s, t => rfl
  | l :: ls, s, t => by
    have e1 : seenLs s (l :: ls) = seenLs (seenR s l.r.l) ls := rfl
    obtain ⟨u, hu⟩ := pre_seenRs (ls.map fun l => l.r.l) (seenR s l.r.l)
    rw [eachL, List.map_cons, List.map_cons, e1, eachL_c ls (seenR s l.r.l) t]
    congr 1
    show (l.neg, stepR s l.r.l) = _
    rw [stepR_ren, show seenLs (seenR s l.r.l) ls = seenR s l.r.l ++ u from hu, List.append_assoc, renR_pre (u ++ t) seenR_self]
theorem eachR_c : ∀ (ts : List Row) (s t : List Int), (eachR s ts).map (·.l) = ts.map fun r => renR (seenTs s ts ++ t) r.l
  | [], s, t => rfl
  | r :: ts, s, t => by
    have e1 : seenTs s (r :: ts) = seenTs (seenR s r.l) ts := rfl
    obtain ⟨u, hu⟩ := pre_seenRs (ts.map fun r => r.l) (seenR s r.l)
    rw [eachR, List.map_cons, List.map_cons, e1, eachR_c ts (seenR s r.l) t]
    congr 1
    show stepR s r.l = _
    rw [stepR_ren, show seenTs (seenR s r.l) ts = seenR s r.l ++ u from hu, List.append_assoc, renR_pre (u ++ t) seenR_self]
/-- A clause each part of which stands once. -/
def onceC' (c : Cl) : Cl := ⟨(onceK LitR.c [] c.ls).isEmpty, onceK LitR.c [] c.ls, [], (onceK (fun r : Row => r.l) [] c.ts).isEmpty, onceK (fun r : Row => r.l) [] c.ts, [], (onceK LitR.c [] c.cs).isEmpty, onceK LitR.c [] c.cs, []⟩
def renumC (c : Cl) : Cl := ⟨(eachL [] c.ls).isEmpty, eachL [] c.ls, [], (eachR (seenLs [] c.ls) c.ts).isEmpty, eachR (seenLs [] c.ls) c.ts, [], (eachL (seenTs (seenLs [] c.ls) c.ts) c.cs).isEmpty, eachL (seenTs (seenLs [] c.ls) c.ts) c.cs, []⟩
def anewC (c : Cl) : Cl := renumC (onceC' c)
theorem seen_app (s : List Int) (a b : List (List Int)) : seenRs s (a ++ b) = seenRs (seenRs s a) b := List.foldl_append
theorem renum_c (c : Cl) : (renumC c).c = renCC (seenRs [] c.c.rows) c.c := by
  have e1 : seenRs [] c.c.rows = seenLs (seenTs (seenLs [] c.ls) c.ts) c.cs := by
    simp only [CC.rows, Cl.c, List.map_map, seen_app]; rfl
  obtain ⟨u, hu⟩ := pre_seenRs (c.cs.map fun l => l.r.l) (seenTs (seenLs [] c.ls) c.ts)
  obtain ⟨v, hv⟩ := pre_seenRs (c.ts.map fun r => r.l) (seenLs [] c.ls)
  have e2 : seenRs [] c.c.rows = seenTs (seenLs [] c.ls) c.ts ++ u := e1.trans hu
  have e3 : seenRs [] c.c.rows = seenLs [] c.ls ++ (v ++ u) := by rw [e2, ← List.append_assoc]; exact congrArg (· ++ u) hv
  have h1 := eachL_c c.ls [] (v ++ u)
  have h2 := eachR_c c.ts (seenLs [] c.ls) u
  have h3 := eachL_c c.cs (seenTs (seenLs [] c.ls) c.ts) []
  rw [← e3] at h1
  rw [← e2] at h2
  rw [List.append_nil, ← e1] at h3
  generalize seenRs [] c.c.rows = S at *
  unfold renumC Cl.c renCC
  dsimp only
  rw [h1, h2, h3]
  simp [List.map_map, Function.comp_def, renL, LitR.c]
theorem once_c (c : Cl) : (onceC' c).c = onceC c.c := by
  unfold onceC' Cl.c onceC
  dsimp only
  rw [once_map, once_map, once_map]; rfl
theorem anew_c (c : Cl) : (anewC c).c = normC c.c := by
  rw [anewC, renum_c, once_c]; rfl
theorem clRow_once {c : Cl} (h : ClRow c) : ClRow (onceC' c) :=
  ⟨Nat.le_trans (once_len LitR.c c.ls []) (by simpa using h.l5), Nat.le_trans (once_len (fun r : Row => r.l) c.ts []) (by simpa using h.t3), Nat.le_trans (once_len LitR.c c.cs []) (by simpa using h.c3),
   fun l hl => h.ls l (by simpa using once_sub LitR.c c.ls [] l hl), fun r hr => h.ts r (by simpa using once_sub (fun r : Row => r.l) c.ts [] r hr), fun l hl => h.cs l (by simpa using once_sub LitR.c c.cs [] l hl)⟩
abbrev oC (c : Cl) : IV := .agg [.own c.lz 35 2 (lits c.ls), .own c.tz 23 1 (rws c.ts), .own c.cz 35 2 (lits c.cs)]
theorem w_anew {c : Cl} (h : ClRow c) : C 42 [iC c] = some (oC (anewC c), [iC c]) := by
  refine wfn (lk := []) rfl rfl (fnW_way (q42 _ _ c.lz (lits c.ls) c.le c.tz (rws c.ts) c.te c.cz (lits c.cs) c.ce _) ?_)
  have h1 := w_clonce h.l5 (fun l hl => (h.ls l hl).len) c.lz c.le
  have h2 := w_clonce h.c3 (fun l hl => (h.cs l hl).len) c.cz c.ce
  have h3 := fun x hx => blk_fun (F := F) (d := d42) (lk := []) (p := [1,1,0,1,0,0]) (p0 := [1,1,0,1]) (id := 0) (by kernel_rfl) (st := fun (x : List Row × Nat) => [(2, b0), (3, bO (onceK LitR.c [] c.ls) x.1 (onceK LitR.c [] c.cs)), (16, iR c.tz c.ts c.te), (17, iI c.ts.length), (18, iI x.2)]) (I := fun x => x.2 ≤ c.ts.length ∧ x.1.length ≤ x.2) (μ := fun x => c.ts.length - x.2)
    (res := fun x => .norm [(2, b0), (3, bO (onceK LitR.c [] c.ls) (onceK (fun r : Row => r.l) x.1 (c.ts.drop x.2)) (onceK LitR.c [] c.cs)), (16, iR c.tz c.ts c.te), (17, iI c.ts.length), (18, iI c.ts.length)])
    (fun x hx => by
      obtain ⟨us, i⟩ := x
      obtain ⟨hx1, hx2⟩ := hx
      dsimp only at hx1 hx2
      have hb := h.t3
      by_cases hi : i < c.ts.length
      · obtain ⟨l, hl1⟩ := at_lt hi
        have hd : c.ts.drop i = l :: c.ts.drop (i + 1) := by
          rw [List.drop_eq_getElem_cons hi]
          rw [List.getElem?_eq_getElem hi] at hl1
          cases hl1; rfl
        have hc := w_hasrow (h.ts l (List.mem_of_getElem? hl1)).len (ts := us) (by omega) us.isEmpty []
        have hi' : (i : Int) < c.ts.length := by omega
        by_cases hm : l.l ∈ us.map (fun r : Row => r.l)
        · rw [decide_eq_true hm] at hc
          refine .go (us, i + 1) (wpQ_way (q42_l0a _ _ _ (lits (onceK LitR.c [] c.ls)) us.isEmpty (rws us) _ (lits (onceK LitR.c [] c.cs)) c.tz (rws c.ts) c.te _ i _) ?_) ⟨by dsimp only; omega, by dsimp only; omega⟩ (by dsimp only; omega) ?_
          · simp [-Bool.exists_bool, -getElem?_pos, -Int.natCast_add, hi', rws_at hl1, hc, wr1 hi (by omega)]
          · dsimp only; rw [hd, onceK, if_pos hm]
        · rw [decide_eq_false hm] at hc
          refine .go (us ++ [l], i + 1) (wpQ_way (q42_l0a _ _ _ (lits (onceK LitR.c [] c.ls)) us.isEmpty (rws us) _ (lits (onceK LitR.c [] c.cs)) c.tz (rws c.ts) c.te _ i _) ?_) ⟨by dsimp only; omega, by simp; omega⟩ (by dsimp only; omega) ?_
          · have k1 : us.length + 1 ≤ 9223372036854775807 := by omega
            have k2 : (us.length + 1) * 24 ≤ 140737488355328 := by omega
            simp [-Bool.exists_bool, -getElem?_pos, -Int.natCast_add, hi', rws_at hl1, hc, wr1 hi (by omega), rws_len, k1, k2, rws_append, rws_cons, rws_nil]
          · dsimp only; rw [hd, onceK, if_neg hm]
      · have e1 : i = c.ts.length := by omega
        subst e1
        refine .stop (.exit 0 [(2, b0), (3, bO (onceK LitR.c [] c.ls) us (onceK LitR.c [] c.cs)), (16, iR c.tz c.ts c.te), (17, iI c.ts.length), (18, iI c.ts.length)]) (wpQ_way (q42_l0a _ _ _ (lits (onceK LitR.c [] c.ls)) us.isEmpty (rws us) _ (lits (onceK LitR.c [] c.cs)) c.tz (rws c.ts) c.te _ _ _) (by simp)) rfl ?_
        simp [blkO, onceK]) x hx
  have h4 : evP F (Go.Ab.W F) (JW F d42 []) d42 [] [1,1,0,1] [(2, b0), (3, bO (onceK LitR.c [] c.ls) [] (onceK LitR.c [] c.cs)), (16, iR c.tz c.ts c.te), (17, iI c.ts.length), (18, iI 0)] = _ := h3 ([], 0) ⟨Nat.zero_le _, Nat.le_refl _⟩
  rw [List.drop_zero] at h4
  have h5 := w_each (c := onceC' c) (clRow_once h) (s := []) ⟨List.nodup_nil, by simp⟩
  refine ⟨_, _, _, h1, _, _, _, h2, ?_⟩
  rw [rws_len]
  refine ⟨_, _, _, _, _, _, _, _, _, _, _, h4, ?_⟩
  exact .inl ⟨_, _, _, _, _, _, _, _, _, h5, rfl⟩
/-! ### The same -/
theorem map_eq_at {α β : Type} (f : α → β) {a b : List α} (hl : a.length = b.length) (h : ∀ (i : Nat) (x y : α), a[i]? = some x → b[i]? = some y → f x = f y) : a.map f = b.map f := by
  refine List.ext_getElem (by simpa using hl) (fun i h1 h2 => ?_)
  simp at h1 h2
  simp only [List.getElem_map]
  exact h i _ _ (by simp [h1]) (by simp [h2])
structure ClLen (c : Cl) : Prop where
  l5 : c.ls.length ≤ 1000
  t3 : c.ts.length ≤ 1000
  c3 : c.cs.length ≤ 1000
  ls : ∀ l ∈ c.ls, Len l.r.l
  ts : ∀ r ∈ c.ts, Len r.l
  cs : ∀ l ∈ c.cs, Len l.r.l
theorem cl_ext {c d : Cl} : c.c = d.c ↔ c.ls.map LitR.c = d.ls.map LitR.c ∧ c.ts.map (fun r : Row => r.l) = d.ts.map (fun r : Row => r.l) ∧ c.cs.map LitR.c = d.cs.map LitR.c := by
  simp [Cl.c]
/-! ### Of clauses that may be -/
def NilC (c : Cl) : Prop := ∀ r ∈ rowsOf c, r.z = true → r.l = []
theorem clRow_of {g : List Sym} {c : Cl} (h : clB g c = true) (hn : NilC c) : ClRow c := by
  have hk := clOk.1 ((clB_c g c).symm.trans h)
  have hc := cl_codes hk
  have hl : ∀ l ∈ c.ls, atomB g l.r.l = true := fun l hl => hk.la l.c (by simp [Cl.c]; exact ⟨l, hl, rfl⟩)
  have hcs : ∀ l ∈ c.cs, atomB g l.r.l = true := fun l hl => hk.ca l.c (by simp [Cl.c]; exact ⟨l, hl, rfl⟩)
  have ht : ∀ r ∈ c.ts, rowB g r.l = true := fun r hr => by
    obtain ⟨k, hk⟩ := hk.tr
    exact (hk r.l (by simp [Cl.c]; exact ⟨r, hr, rfl⟩)).1
  have e1 : c.c.ls.length = c.ls.length := by simp [Cl.c]
  have e2 : c.c.ts.length = c.ts.length := by simp [Cl.c]
  have e3 : c.c.cs.length = c.cs.length := by simp [Cl.c]
  have h1 := hk.l5; have h2 := hk.t3; have h3 := hk.c3
  refine ⟨by omega, by omega, by omega, fun l hl' => ?_, fun r hr => ?_, fun l hl' => ?_⟩
  · have := atom_codes (hl l hl')
    exact ⟨by have := this.1; unfold Len; omega, hn _ (by simp [rowsOf]; exact .inl ⟨l, hl', rfl⟩), fun c hc => (this.2.1 c hc).1⟩
  · exact ⟨row_len (ht r hr), hn _ (by simp [rowsOf, hr]), fun c hc => (row_codes (ht r hr) c hc).1⟩
  · have := atom_codes (hcs l hl')
    exact ⟨by have := this.1; unfold Len; omega, hn _ (by simp [rowsOf]; exact .inr (.inr ⟨l, hl', rfl⟩)), fun c hc => (this.2.1 c hc).1⟩
theorem stepR_len : ∀ (r s : List Int), (stepR s r).length = r.length
  | [], s => rfl
  | c :: r, s => by simp [stepR, stepR_len r]
theorem eachL_sub : ∀ (ls : List LitR) (s : List Int) (x : LitR), x ∈ eachL s ls → ∃ l ∈ ls, x.r.l.length = l.r.l.length ∧ x.r.z = l.r.z
  | [], s, x, h => by simp [eachL] at h
  | l :: ls, s, x, h => by
    rw [eachL] at h
    rcases List.mem_cons.1 h with rfl | h
    · exact ⟨l, by simp, stepR_len _ _, rfl⟩
    · obtain ⟨m, hm, h1⟩ := eachL_sub ls _ x h
      exact ⟨m, by simp [hm], h1⟩
theorem eachR_sub : ∀ (ts : List Row) (s : List Int) (x : Row), x ∈ eachR s ts → ∃ l ∈ ts, x.l.length = l.l.length ∧ x.z = l.z
  | [], s, x, h => by simp [eachR] at h
  | l :: ls, s, x, h => by
    rw [eachR] at h
    rcases List.mem_cons.1 h with rfl | h
    · exact ⟨l, by simp, stepR_len _ _, rfl⟩
    · obtain ⟨m, hm, h1⟩ := eachR_sub ls _ x h
      exact ⟨m, by simp [hm], h1⟩
theorem eachL_len : ∀ (ls : List LitR) (s : List Int), (eachL s ls).length = ls.length
  | [], s => rfl
  | l :: ls, s => by simp [eachL, eachL_len ls]
theorem eachR_len : ∀ (ls : List Row) (s : List Int), (eachR s ls).length = ls.length
  | [], s => rfl
  | l :: ls, s => by simp [eachR, eachR_len ls]
theorem renum_len {c : Cl} (h : ClRow c) : ClLen (renumC c) :=
  ⟨by simpa [renumC, eachL_len] using h.l5, by simpa [renumC, eachR_len] using h.t3, by simpa [renumC, eachL_len] using h.c3,
   fun l hl => by obtain ⟨m, hm, h1, _⟩ := eachL_sub _ _ l hl; have := (h.ls m hm).len; unfold Len at *; omega,
   fun l hl => by obtain ⟨m, hm, h1, _⟩ := eachR_sub _ _ l hl; have := (h.ts m hm).len; unfold Len at *; omega,
   fun l hl => by obtain ⟨m, hm, h1, _⟩ := eachL_sub _ _ l hl; have := (h.cs m hm).len; unfold Len at *; omega⟩
theorem renum_nil {c : Cl} (h : ClRow c) : NilC (renumC c) := fun r hr hz => by
  have h0 : ∀ (n : Nat) (m : List Int), n = m.length → m = [] → n = 0 := fun n m h1 h2 => by subst h2; simpa using h1
  simp only [rowsOf, renumC, List.mem_append, List.mem_map] at hr
  rcases hr with (⟨l, hl, rfl⟩ | hr) | ⟨l, hl, rfl⟩
  · obtain ⟨m, hm, h1, h2⟩ := eachL_sub _ _ l hl
    exact List.length_eq_zero_iff.1 (h0 _ _ h1 ((h.ls m hm).nil (h2 ▸ hz)))
  · obtain ⟨m, hm, h1, h2⟩ := eachR_sub _ _ r hr
    exact List.length_eq_zero_iff.1 (h0 _ _ h1 ((h.ts m hm).nil (h2 ▸ hz)))
  · obtain ⟨m, hm, h1, h2⟩ := eachL_sub _ _ l hl
    exact List.length_eq_zero_iff.1 (h0 _ _ h1 ((h.cs m hm).nil (h2 ▸ hz)))
theorem anew_ok {g : List Sym} {c : Cl} (h : clB g c = true) : clB g (anewC c) = true := by
  rw [clB_c, anew_c]
  exact clOk.2 (norm_ok (clOk.1 ((clB_c g c).symm.trans h)))
theorem w_normal (z : Bool) (g : List Sym) (e : List D) {c : Cl} (hn : NilC c) : C 17 [iG z g e, iC c] = some (if clB g c = true then .tup [oC (anewC c), iI 0] else .tup [.d (.agg [.sl 2 true [] [], .sl 1 true [] [], .sl 2 true [] []]), iI 800], [iG z g e, iC c]) := by
  refine wfn (lk := []) rfl rfl (fnW_way (q17 _ _ z (syms g) e c.lz (lits c.ls) c.le c.tz (rws c.ts) c.te c.cz (lits c.cs) c.ce _) ?_)
  have h1 := w_clmay z g e c
  refine ⟨_, _, _, h1, ?_⟩
  cases h : clB g c
  · rfl
  · have h2 := w_anew (clRow_of h hn)
    rw [condW_tt]
    exact ⟨_, _, _, _, _, _, _, h2, rfl⟩
end Go.Proofs.YtollbcdhmnnjeaaDoor.Ab

/- Rows that become others: what stands for each variable, and the search for it. Plain lists; no condition. -/
set_option linter.unusedVariables false
set_option linter.unusedSimpArgs false
namespace Go.Qu
open Go Go.Ab

/-- What stands for each variable, as far as something does. -/
abbrev Bs := Nat → Option (List Int)
def Bs.upd (s : Bs) (v : Nat) (t : List Int) : Bs := fun w => if w = v then some t else s w
def vN (c : Int) : Nat := (-1 - c).toNat
/-- What makes codes others, beside what stands. -/
def growF (g : List Sym) : Bs → List Int → List Int → Option Bs
  | s, [], b => if b = [] then some s else none
  | s, c :: a, b => if b = [] then none else
    if 0 ≤ c then (if b.head? = some c then growF g s a b.tail else none)
    else match lenN g b 1 with
      | none => none
      | some k => match s (vN c) with
        | none => growF g (s.upd (vN c) (b.take k)) a (b.drop k)
        | some t => if t = b.take k then growF g s a (b.drop k) else none
/-- Whatever stands in one stands in the other. -/
def Bs.le (s u : Bs) : Prop := ∀ v t, s v = some t → u v = some t
theorem Bs.le_refl (s : Bs) : s.le s := fun _ _ h => h
theorem Bs.le_trans {s u w : Bs} (h : s.le u) (h' : u.le w) : s.le w := fun v t e => h' v t (h v t e)
theorem Bs.le_upd {s : Bs} {v : Nat} (t : List Int) (h : s v = none) : s.le (s.upd v t) := fun w u e => by
  unfold Bs.upd
  split
  · rename_i h1; subst h1; rw [h] at e; cases e
  · exact e
/-- Terms for all variables. -/
abbrev Sb := Nat → List Int
def Sb.Ok (g : List Sym) (σ : Sb) : Prop := ∀ v, lenN g (σ v) 1 = some (σ v).length
def Bs.leS (s : Bs) (σ : Sb) : Prop := ∀ v t, s v = some t → σ v = t
def appC (σ : Sb) (c : Int) : List Int := if 0 ≤ c then [c] else σ (vN c)
def app (σ : Sb) (a : List Int) : List Int := a.flatMap (appC σ)
theorem app_nil (σ : Sb) : app σ [] = [] := rfl
theorem app_cons (σ : Sb) (c : Int) (a : List Int) : app σ (c :: a) = appC σ c ++ app σ a := rfl
theorem app_app (σ : Sb) (a b : List Int) : app σ (a ++ b) = app σ a ++ app σ b := List.flatMap_append
/-- What was found makes codes others. -/
theorem grow_sound {g : List Sym} : ∀ {a b : List Int} {s u : Bs}, growF g s a b = some u → s.le u ∧ (∀ c ∈ a, c < 0 → (u (vN c)).isSome = true) ∧ (∀ v t, u v = some t → s v = some t ∨ lenN g t 1 = some t.length) ∧ ∀ σ : Sb, u.leS σ → app σ a = b
  | [], b, s, u, h => by
    rw [growF] at h
    split at h
    · rename_i hb
      cases h
      exact ⟨Bs.le_refl s, by simp, fun v t e => .inl e, fun σ _ => by rw [hb]; rfl⟩
    · cases h
  | c :: a, b, s, u, h => by
    rw [growF] at h
    split at h
    · cases h
    rename_i hb
    by_cases h0 : 0 ≤ c
    · rw [if_pos h0] at h
      split at h
      · rename_i hh
        obtain ⟨h1, h2, h3, h4⟩ := grow_sound h
        refine ⟨h1, fun x hx hx0 => ?_, h3, fun σ hσ => ?_⟩
        · rcases List.mem_cons.1 hx with rfl | hx
          · omega
          · exact h2 x hx hx0
        · rw [app_cons, appC, if_pos h0, h4 σ hσ]
          cases b with
          | nil => exact absurd rfl hb
          | cons y b => simp at hh; subst hh; rfl
      · cases h
    · rw [if_neg h0] at h
      split at h
      · cases h
      rename_i k hk
      have hlt := lenN_take hk
      have hlen : (b.take k).length = k := by have := (lenN_le hk).1; simp; omega
      split at h
      · rename_i hs
        obtain ⟨h1, h2, h3, h4⟩ := grow_sound h
        have hv : u (vN c) = some (b.take k) := h1 _ _ (by simp [Bs.upd])
        refine ⟨Bs.le_trans (Bs.le_upd _ hs) h1, fun x hx hx0 => ?_, fun v t e => ?_, fun σ hσ => ?_⟩
        · rcases List.mem_cons.1 hx with rfl | hx
          · rw [hv]; rfl
          · exact h2 x hx hx0
        · rcases h3 v t e with h5 | h5
          · unfold Bs.upd at h5
            split at h5
            · cases h5; exact .inr (by rw [hlen]; exact hlt)
            · exact .inl h5
          · exact .inr h5
        · rw [app_cons, appC, if_neg h0, hσ _ _ hv, h4 σ hσ, List.take_append_drop]
      · rename_i t hs
        split at h
        · rename_i ht
          subst ht
          obtain ⟨h1, h2, h3, h4⟩ := grow_sound h
          have hv : u (vN c) = some (b.take k) := h1 _ _ hs
          refine ⟨h1, fun x hx hx0 => ?_, h3, fun σ hσ => ?_⟩
          · rcases List.mem_cons.1 hx with rfl | hx
            · rw [hv]; rfl
            · exact h2 x hx hx0
          · rw [app_cons, appC, if_neg h0, hσ _ _ hv, h4 σ hσ, List.take_append_drop]
        · cases h
/-- Whatever makes codes others is found. -/
theorem grow_full {g : List Sym} : ∀ {a b : List Int} {s : Bs} {σ : Sb}, s.leS σ → (∀ c ∈ a, c < 0 → lenN g (σ (vN c)) 1 = some (σ (vN c)).length) → app σ a = b → ∃ u, growF g s a b = some u ∧ u.leS σ
  | [], b, s, σ, hs, _, hb => by
    rw [app_nil] at hb
    subst hb
    exact ⟨s, by rw [growF, if_pos rfl], hs⟩
  | c :: a, b, s, σ, hs, hσ, hb => by
    rw [app_cons] at hb
    by_cases h0 : 0 ≤ c
    · rw [appC, if_pos h0] at hb
      subst hb
      obtain ⟨u, h1, h2⟩ := grow_full hs (fun x hx => hσ x (by simp [hx])) (rfl : app σ a = app σ a)
      refine ⟨u, ?_, h2⟩
      rw [growF, if_neg (by simp), if_pos h0, if_pos (by simp)]
      exact h1
    · rw [appC, if_neg h0] at hb
      have hk := hσ c (by simp) (by omega)
      have hk1 := (lenN_le hk).2
      have hbn : b ≠ [] := by
        intro e
        rw [e] at hb
        have := (List.append_eq_nil_iff.1 hb).1
        rw [this] at hk1; simp at hk1
      have hkb : lenN g b 1 = some (σ (vN c)).length := by rw [← hb]; exact lenN_app _ hk
      have ht : b.take (σ (vN c)).length = σ (vN c) := by rw [← hb]; simp
      have hd : b.drop (σ (vN c)).length = app σ a := by rw [← hb]; simp
      cases hv : s (vN c) with
      | none =>
        obtain ⟨u, h1, h2⟩ := grow_full (s := s.upd (vN c) (σ (vN c))) (fun v t e => by
          unfold Bs.upd at e
          split at e
          · rename_i h3; subst h3; cases e; rfl
          · exact hs v t e) (fun x hx => hσ x (by simp [hx])) hd.symm
        refine ⟨u, ?_, h2⟩
        rw [growF, if_neg hbn, if_neg h0, hkb]
        simp only [hv, ht]
        exact h1
      | some t =>
        have := hs _ _ hv
        subst this
        obtain ⟨u, h1, h2⟩ := grow_full hs (fun x hx => hσ x (by simp [hx])) hd.symm
        refine ⟨u, ?_, h2⟩
        rw [growF, if_neg hbn, if_neg h0, hkb]
        simp only [hv, ht, if_true]
        exact h1
/-- With less beside it there is something, too. -/
theorem grow_mono {g : List Sym} : ∀ {a b : List Int} {s s' u' : Bs}, s.le s' → growF g s' a b = some u' → ∃ u, growF g s a b = some u ∧ u.le u'
  | [], b, s, s', u', hs, h => by
    rw [growF] at h
    split at h
    · rename_i hb
      cases h
      exact ⟨s, by rw [growF, if_pos hb], hs⟩
    · cases h
  | c :: a, b, s, s', u', hs, h => by
    rw [growF] at h
    split at h
    · cases h
    rename_i hb
    by_cases h0 : 0 ≤ c
    · rw [if_pos h0] at h
      split at h
      · rename_i hh
        obtain ⟨u, h1, h2⟩ := grow_mono hs h
        exact ⟨u, by rw [growF, if_neg hb, if_pos h0, if_pos hh]; exact h1, h2⟩
      · cases h
    · rw [if_neg h0] at h
      split at h
      · cases h
      rename_i k hk
      split at h
      · rename_i hs'
        have hsn : s (vN c) = none := by
          cases e : s (vN c) with
          | none => rfl
          | some t => have := hs _ _ e; rw [hs'] at this; cases this
        obtain ⟨u, h1, h2⟩ := grow_mono (s := s.upd (vN c) (b.take k)) (fun v t e => by
          unfold Bs.upd at e ⊢
          split
          · rename_i h3; rw [if_pos h3] at e; exact e
          · rename_i h3; rw [if_neg h3] at e; exact hs v t e) h
        exact ⟨u, by rw [growF, if_neg hb, if_neg h0, hk]; simp only [hsn]; exact h1, h2⟩
      · rename_i t hs'
        split at h
        · rename_i ht
          cases e : s (vN c) with
          | none =>
            obtain ⟨u, h1, h2⟩ := grow_mono (s := s.upd (vN c) (b.take k)) (fun v t' e' => by
              unfold Bs.upd at e'
              split at e'
              · rename_i h3; subst h3; cases e'; rw [hs', ht]
              · exact hs v t' e') h
            exact ⟨u, by rw [growF, if_neg hb, if_neg h0, hk]; simp only [e]; exact h1, h2⟩
          | some t2 =>
            have h3 := hs _ _ e
            rw [hs'] at h3
            cases h3
            obtain ⟨u, h1, h2⟩ := grow_mono hs h
            exact ⟨u, by rw [growF, if_neg hb, if_neg h0, hk]; simp only [e, ht, if_true]; exact h1, h2⟩
        · cases h
/-! ### The search -/
/-- A part: its codes, and which ones it may become: their places, what they are. -/
structure Pt where
  codes : List Int
  cand : List (Nat × List Int)
def okB (g : List Sym) (s : Bs) (a b : List Int) : Bool := (growF g s a b).isSome
def openF (g : List Sym) (s : Bs) (ps : List Pt) : Bool := ps.all fun p => p.cand.any fun x => okB g s p.codes x.2
mutual
/-- The least row of places. -/
def findF (g : List Sym) : List Pt → Bs → Option (List Nat)
  | [], _ => some []
  | p :: ps, s => tryF g p.codes ps s p.cand
def tryF (g : List Sym) (a : List Int) (ps : List Pt) (s : Bs) : List (Nat × List Int) → Option (List Nat)
  | [] => none
  | x :: xs => match growF g s a x.2 with
    | none => tryF g a ps s xs
    | some u => match findF g ps u with
      | some r => some (x.1 :: r)
      | none => tryF g a ps s xs
end
mutual
theorem find_some {g : List Sym} : ∀ {ps : List Pt} {s : Bs} {r : List Nat}, findF g ps s = some r → ∃ u : Bs, s.le u ∧ (∀ v t, u v = some t → s v = some t ∨ lenN g t 1 = some t.length) ∧ ∀ σ : Sb, u.leS σ → ∀ p ∈ ps, ∃ x ∈ p.cand, app σ p.codes = x.2
  | [], s, r, h => ⟨s, Bs.le_refl s, fun v t e => .inl e, fun σ _ p hp => by simp at hp⟩
  | p :: ps, s, r, h => by
    rw [findF] at h
    obtain ⟨u, h1, h2, h3⟩ := try_some p.cand h
    exact ⟨u, h1, h2, fun σ hσ q hq => by
      rcases List.mem_cons.1 hq with rfl | hq
      · exact (h3 σ hσ).1
      · exact (h3 σ hσ).2 q hq⟩
theorem try_some {g : List Sym} {a : List Int} {ps : List Pt} {s : Bs} : ∀ (xs : List (Nat × List Int)) {r : List Nat}, tryF g a ps s xs = some r → ∃ u : Bs, s.le u ∧ (∀ v t, u v = some t → s v = some t ∨ lenN g t 1 = some t.length) ∧ ∀ σ : Sb, u.leS σ → (∃ x ∈ xs, app σ a = x.2) ∧ ∀ p ∈ ps, ∃ x ∈ p.cand, app σ p.codes = x.2
  | [], r, h => by simp [tryF] at h
  | x :: xs, r, h => by
    rw [tryF] at h
    split at h
    · obtain ⟨u, h1, h2, h3⟩ := try_some xs h
      exact ⟨u, h1, h2, fun σ hσ => ⟨by obtain ⟨y, hy, e⟩ := (h3 σ hσ).1; exact ⟨y, by simp [hy], e⟩, (h3 σ hσ).2⟩⟩
    · rename_i w hw
      split at h
      · rename_i r' hr
        obtain ⟨k1, _, k3, k4⟩ := grow_sound hw
        obtain ⟨u, h1, h2, h3⟩ := find_some hr
        refine ⟨u, Bs.le_trans k1 h1, fun v t e => ?_, fun σ hσ => ⟨⟨x, by simp, k4 σ (fun v t e => hσ v t (h1 v t e))⟩, h3 σ hσ⟩⟩
        rcases h2 v t e with h5 | h5
        · exact k3 v t h5
        · exact .inr h5
      · obtain ⟨u, h1, h2, h3⟩ := try_some xs h
        exact ⟨u, h1, h2, fun σ hσ => ⟨by obtain ⟨y, hy, e⟩ := (h3 σ hσ).1; exact ⟨y, by simp [hy], e⟩, (h3 σ hσ).2⟩⟩
end
mutual
theorem find_full {g : List Sym} {σ : Sb} (hσ : σ.Ok g) : ∀ {ps : List Pt} {s : Bs}, s.leS σ → (∀ p ∈ ps, ∃ x ∈ p.cand, app σ p.codes = x.2) → ∃ r, findF g ps s = some r
  | [], s, hs, h => ⟨[], by rw [findF]⟩
  | p :: ps, s, hs, h => by
    rw [findF]
    exact try_full hσ p.cand hs (h p (by simp)) (fun q hq => h q (by simp [hq]))
theorem try_full {g : List Sym} {σ : Sb} (hσ : σ.Ok g) {a : List Int} {ps : List Pt} : ∀ (xs : List (Nat × List Int)) {s : Bs}, s.leS σ → (∃ x ∈ xs, app σ a = x.2) → (∀ p ∈ ps, ∃ x ∈ p.cand, app σ p.codes = x.2) → ∃ r, tryF g a ps s xs = some r
  | [], s, hs, h, _ => by obtain ⟨x, hx, _⟩ := h; simp at hx
  | x :: xs, s, hs, h, hp => by
    rw [tryF]
    obtain ⟨y, hy, e⟩ := h
    rcases List.mem_cons.1 hy with rfl | hy
    · obtain ⟨u, h1, h2⟩ := grow_full hs (fun c _ _ => hσ (vN c)) e
      obtain ⟨r, hr⟩ := find_full hσ h2 hp
      rw [h1]; simp only [hr]
      exact ⟨_, rfl⟩
    · obtain ⟨r, hr⟩ := try_full hσ xs hs ⟨y, hy, e⟩ hp
      split
      · exact ⟨r, hr⟩
      · split
        · exact ⟨_, rfl⟩
        · exact ⟨r, hr⟩
end
mutual
/-- What is found with some things beside is possible without them. -/
theorem find_open {g : List Sym} : ∀ {ps : List Pt} {s s' : Bs} {r : List Nat}, s.le s' → findF g ps s' = some r → openF g s ps = true
  | [], s, s', r, _, _ => rfl
  | p :: ps, s, s', r, hs, h => by
    rw [findF] at h
    have h1 := try_open p.cand hs h
    rw [openF, List.all_cons, Bool.and_eq_true]
    exact h1
theorem try_open {g : List Sym} {a : List Int} {ps : List Pt} : ∀ (xs : List (Nat × List Int)) {s s' : Bs} {r : List Nat}, s.le s' → tryF g a ps s' xs = some r → (xs.any fun x => okB g s a x.2) = true ∧ openF g s ps = true
  | [], s, s', r, _, h => by simp [tryF] at h
  | x :: xs, s, s', r, hs, h => by
    rw [tryF] at h
    rw [List.any_cons]
    split at h
    · have := try_open xs hs h
      exact ⟨by rw [this.1, Bool.or_true], this.2⟩
    · rename_i w hw
      split at h
      · rename_i r' hr
        obtain ⟨u, h1, _⟩ := grow_mono hs hw
        have h2 := find_open (s := s) (Bs.le_trans hs (grow_sound hw).1) hr
        exact ⟨by rw [show okB g s a x.2 = true by unfold okB; rw [h1]; rfl]; rfl, h2⟩
      · have := try_open xs hs h
        exact ⟨by rw [this.1, Bool.or_true], this.2⟩
end
/-- The search that leaves out what is hopeless. -/
theorem open_none {g : List Sym} {ps : List Pt} {s : Bs} (h : openF g s ps = false) : findF g ps s = none := by
  cases e : findF g ps s with
  | none => rfl
  | some r => rw [find_open (Bs.le_refl s) e] at h; cases h
def onlyOk (g : List Sym) (p : Pt) : Pt := ⟨p.codes, p.cand.filter fun x => okB g (fun _ => none) p.codes x.2⟩
theorem none_le (s : Bs) : Bs.le (fun _ => none) s := fun _ _ h => by cases h
theorem try_filter {g : List Sym} {a : List Int} {ps qs : List Pt} (hp : ∀ s : Bs, findF g ps s = findF g qs s) {s : Bs} : ∀ (xs : List (Nat × List Int)), tryF g a ps s (xs.filter fun x => okB g (fun _ => none) a x.2) = tryF g a qs s xs
  | [] => by rw [List.filter_nil, tryF, tryF]
  | x :: xs => by
    have ih := try_filter (a := a) hp (s := s) xs
    rw [List.filter_cons]
    cases e : growF g s a x.2 with
    | none =>
      split
      · rw [tryF, tryF, e]; exact ih
      · rw [tryF, e]; exact ih
    | some u =>
      obtain ⟨w, hw, _⟩ := grow_mono (none_le s) e
      rw [if_pos (by unfold okB; rw [hw]; rfl), tryF, tryF, e]
      simp only [hp u, ih]
theorem find_filter {g : List Sym} : ∀ (ps : List Pt) (s : Bs), findF g (ps.map (onlyOk g)) s = findF g ps s
  | [], s => rfl
  | p :: ps, s => by
    rw [List.map_cons, findF, findF]
    exact try_filter (find_filter ps) p.cand
/-! ### To say as much -/
def cands (neg : Bool) (ls : List LC) (n : Nat) : List (Nat × List Int) := match ls with
  | [] => []
  | l :: ls => if neg = l.1 then (n, l.2) :: cands neg ls (n + 1) else cands neg ls (n + 1)
def candR (ts : List (List Int)) (n : Nat) : List (Nat × List Int) := match ts with
  | [] => []
  | t :: ts => (n, t) :: candR ts (n + 1)
def ptsC (c d : CC) : List Pt := (c.ls.map fun l => ⟨l.2, cands l.1 d.ls 0⟩) ++ (c.ts.map fun r => ⟨r, candR d.ts 0⟩) ++ (c.cs.map fun l => ⟨l.2, cands l.1 d.cs 0⟩)
theorem mem_cands {neg : Bool} : ∀ {ls : List LC} {n : Nat} {r : List Int}, (∃ x ∈ cands neg ls n, r = x.2) ↔ (neg, r) ∈ ls
  | [], n, r => by simp [cands]
  | l :: ls, n, r => by
    have ih := mem_cands (neg := neg) (ls := ls) (n := n + 1) (r := r)
    obtain ⟨b, q⟩ := l
    rw [cands]
    by_cases h : neg = b
    · subst h
      rw [if_pos rfl]
      constructor
      · rintro ⟨x, hx, e⟩
        rcases List.mem_cons.1 hx with rfl | hx
        · subst e; simp
        · exact List.mem_cons_of_mem _ (ih.1 ⟨x, hx, e⟩)
      · intro hm
        rcases List.mem_cons.1 hm with e | hm
        · cases e; exact ⟨(n, r), by simp, rfl⟩
        · obtain ⟨x, hx, e⟩ := ih.2 hm
          exact ⟨x, by simp [hx], e⟩
    · rw [if_neg h, ih]
      constructor
      · exact List.mem_cons_of_mem _
      · intro hm
        rcases List.mem_cons.1 hm with e | hm
        · cases e; exact absurd rfl h
        · exact hm
theorem mem_candR : ∀ {ts : List (List Int)} {n : Nat} {r : List Int}, (∃ x ∈ candR ts n, r = x.2) ↔ r ∈ ts
  | [], n, r => by simp [candR]
  | t :: ts, n, r => by
    have ih := mem_candR (ts := ts) (n := n + 1) (r := r)
    rw [candR]
    constructor
    · rintro ⟨x, hx, e⟩
      rcases List.mem_cons.1 hx with rfl | hx
      · subst e; simp
      · exact List.mem_cons_of_mem _ (ih.1 ⟨x, hx, e⟩)
    · intro hm
      rcases List.mem_cons.1 hm with e | hm
      · subst e; exact ⟨(n, r), by simp, rfl⟩
      · obtain ⟨x, hx, e⟩ := ih.2 hm
        exact ⟨x, by simp [hx], e⟩
/-- A clause says as much as another one: terms for its variables make each part one of the other's. -/
def Says (g : List Sym) (c d : CC) : Prop := ∃ σ : Sb, σ.Ok g ∧ (∀ l ∈ c.ls, (l.1, app σ l.2) ∈ d.ls) ∧ (∀ r ∈ c.ts, app σ r ∈ d.ts) ∧ ∀ l ∈ c.cs, (l.1, app σ l.2) ∈ d.cs
theorem pts_all {c d : CC} (σ : Sb) : (∀ p ∈ ptsC c d, ∃ x ∈ p.cand, app σ p.codes = x.2) ↔ (∀ l ∈ c.ls, (l.1, app σ l.2) ∈ d.ls) ∧ (∀ r ∈ c.ts, app σ r ∈ d.ts) ∧ ∀ l ∈ c.cs, (l.1, app σ l.2) ∈ d.cs := by
  unfold ptsC
  simp only [List.mem_append, List.mem_map]
  constructor
  · intro h
    refine ⟨fun l hl => mem_cands.1 (h _ (.inl (.inl ⟨l, hl, rfl⟩))), fun r hr => mem_candR.1 (h _ (.inl (.inr ⟨r, hr, rfl⟩))), fun l hl => mem_cands.1 (h _ (.inr ⟨l, hl, rfl⟩))⟩
  · rintro ⟨h1, h2, h3⟩ p ((⟨l, hl, rfl⟩ | ⟨r, hr, rfl⟩) | ⟨l, hl, rfl⟩)
    · exact mem_cands.2 (h1 l hl)
    · exact mem_candR.2 (h2 r hr)
    · exact mem_cands.2 (h3 l hl)
def defS (u : Bs) : Sb := fun v => match u v with
  | some t => t
  | none => if v ≤ 23 then [-1 - (v : Int)] else [-1]
theorem says_find {g : List Sym} {c d : CC} : (∃ r, findF g (ptsC c d) (fun _ => none) = some r) ↔ Says g c d := by
  constructor
  · rintro ⟨r, h⟩
    obtain ⟨u, _, h2, h3⟩ := find_some h
    have hle : u.leS (defS u) := fun v t e => by unfold defS; rw [e]
    refine ⟨defS u, fun v => ?_, (pts_all _).1 (h3 _ hle)⟩
    unfold defS
    split
    · rename_i t e
      rcases h2 v t e with h5 | h5
      · cases h5
      · exact h5
    · split
      · rename_i hv
        have : arOf g (-1 - (v : Int)) = some 0 := by rw [arOf, if_pos (by omega), if_pos (by omega)]
        simp [lenN, this]
      · have : arOf g (-1) = some 0 := by rw [arOf, if_pos (by omega), if_pos (by omega)]
        simp [lenN, this]
  · rintro ⟨σ, hσ, h⟩
    exact find_full hσ (fun v t e => by cases e) ((pts_all σ).2 h)
end Go.Qu

/- What says as much as what: itself, through a third; its point is under the other one's; clauses and their normal ones. Plain lists; no condition. -/
set_option linter.unusedVariables false
set_option linter.unusedSimpArgs false
namespace Go.Qu
open Go Go.Ab

theorem arOf_var {g : List Sym} {c : Int} (h : c < 0) (h2 : -24 ≤ c) : arOf g c = some 0 := by rw [arOf, if_pos h, if_pos h2]
theorem lenN_one {g : List Sym} {c : Int} (h : c < 0) (h2 : -24 ≤ c) : lenN g [c] 1 = some 1 := by simp [lenN, arOf_var h h2]
/-- Each variable for itself. -/
def idS : Sb := fun v => if v ≤ 23 then [-1 - (v : Int)] else [-1]
theorem idS_ok (g : List Sym) : idS.Ok g := fun v => by
  unfold idS
  split
  · exact lenN_one (by omega) (by omega)
  · exact lenN_one (by omega) (by omega)
theorem app_id : ∀ {a : List Int}, (∀ c ∈ a, -24 ≤ c) → app idS a = a
  | [], _ => rfl
  | c :: a, h => by
    rw [app_cons, app_id (fun x hx => h x (by simp [hx]))]
    have hc := h c (by simp)
    unfold appC
    split
    · rfl
    · have h1 : vN c ≤ 23 := by unfold vN; omega
      have h2 : (-1 - (vN c : Int)) = c := by unfold vN; omega
      rw [idS, if_pos h1, h2]; rfl
theorem says_refl {g : List Sym} {c : CC} (h : ClOk g c) : Says g c c := by
  have hc := cl_codes h
  refine ⟨idS, idS_ok g, fun l hl => ?_, fun r hr => ?_, fun l hl => ?_⟩
  · rw [app_id (fun x hx => (hc _ (in_ls hl) x hx).1)]; exact hl
  · rw [app_id (fun x hx => (hc r (by simp [CC.rows, hr]) x hx).1)]; exact hr
  · rw [app_id (fun x hx => (hc _ (in_cs hl) x hx).1)]; exact hl
/-- Terms put into terms. -/
theorem app_lenN {g : List Sym} {σ : Sb} (hσ : σ.Ok g) : ∀ {r : List Int} {n : Nat}, lenN g r n = some r.length → lenN g (app σ r) n = some (app σ r).length
  | [], 0, h => rfl
  | c :: r, 0, h => by simp [lenN] at h
  | [], n + 1, h => by simp [lenN] at h
  | c :: r, n + 1, h => by
    obtain ⟨a, m, ha, hm, hk⟩ := lenN_some h
    simp only [List.length_cons, Nat.add_right_cancel_iff] at hk
    have ih := app_lenN hσ (r := r) (n := n + a) (by rw [hm, hk])
    rw [app_cons]
    unfold appC
    split
    · rename_i h0
      rw [List.singleton_append, lenN_cons ha, ih]; simp
    · rename_i h0
      have ha0 : a = 0 := by
        rw [arOf, if_pos (by omega)] at ha
        split at ha
        · cases ha; rfl
        · cases ha
      subst ha0
      have h1 := lenN_split (r := σ (vN c) ++ app σ r) (n := 1) n (lenN_app (app σ r) (hσ (vN c)))
      rw [Nat.add_comm 1 n] at h1
      rw [Nat.add_zero] at ih
      rw [h1, List.drop_left, ih]; simp
def compS (σ τ : Sb) : Sb := fun v => app τ (σ v)
theorem app_comp {σ τ : Sb} : ∀ (a : List Int), app τ (app σ a) = app (compS σ τ) a
  | [] => rfl
  | c :: a => by
    rw [app_cons, app_cons, app_app, app_comp a]
    congr 1
    unfold appC
    split
    · simp [app, appC, *]
    · rfl
theorem says_trans {g : List Sym} {c d e : CC} (h : Says g c d) (h' : Says g d e) : Says g c e := by
  obtain ⟨σ, hσ, h1, h2, h3⟩ := h
  obtain ⟨τ, hτ, k1, k2, k3⟩ := h'
  refine ⟨compS σ τ, fun v => app_lenN hτ (hσ v), fun l hl => ?_, fun r hr => ?_, fun l hl => ?_⟩
  · rw [← app_comp]; exact k1 _ (h1 l hl)
  · rw [← app_comp]; exact k2 _ (h2 r hr)
  · rw [← app_comp]; exact k3 _ (h3 l hl)
/-! ### Points -/
theorem sumW_app (g : List Sym) : ∀ (a b : List Int), sumW g (a ++ b) = sumW g a + sumW g b
  | [], b => by simp [sumW]
  | c :: a, b => by simp [sumW, sumW_app g a b]; omega
theorem one_codes {g : List Sym} {t : List Int} (h : lenN g t 1 = some t.length) : 1 ≤ t.length ∧ Known g t := by
  have h1 := parts_one h
  rw [List.take_length] at h1
  exact ⟨(lenN_le h).2, fun c hc => (arOf_lt (parts_codes _ t (Nat.le_refl _) h1 c hc)).2⟩
theorem sumW_sub {g : List Sym} (hg : SigOk g) {σ : Sb} (hσ : σ.Ok g) : ∀ (a : List Int), sumW g a ≤ sumW g (app σ a)
  | [] => by simp [app, sumW]
  | c :: a => by
    have ih := sumW_sub hg hσ a
    rw [app_cons, sumW_app, sumW]
    unfold appC
    split
    · simp only [sumW]; omega
    · rename_i h0
      have h1 := one_codes (hσ (vN c))
      have h2 := sumW_le hg _ h1.2
      have h3 : codeW g c = 1 := by rw [codeW, if_pos (by omega)]
      omega
/-- The greatest weight of those literals. -/
def topL (g : List Sym) (neg : Bool) : List LC → Int → Int
  | [], a => a
  | l :: ls, a => if l.1 = neg then topL g neg ls (if sumW g l.2 > a then sumW g l.2 else a) else topL g neg ls a
theorem top_le {g : List Sym} {neg : Bool} : ∀ {ls : List LC} {a n : Int}, topL g neg ls a ≤ n ↔ a ≤ n ∧ ∀ l ∈ ls, l.1 = neg → sumW g l.2 ≤ n
  | [], a, n => by simp [topL]
  | l :: ls, a, n => by
    rw [topL]
    split
    · rename_i h
      rw [top_le]
      constructor
      · rintro ⟨h1, h2⟩
        refine ⟨by split at h1 <;> omega, fun x hx hn => ?_⟩
        rcases List.mem_cons.1 hx with rfl | hx
        · split at h1 <;> omega
        · exact h2 x hx hn
      · rintro ⟨h1, h2⟩
        refine ⟨?_, fun x hx hn => h2 x (by simp [hx]) hn⟩
        have := h2 l (by simp) h
        split <;> omega
    · rename_i h
      rw [top_le]
      constructor
      · rintro ⟨h1, h2⟩
        refine ⟨h1, fun x hx hn => ?_⟩
        rcases List.mem_cons.1 hx with rfl | hx
        · exact absurd hn h
        · exact h2 x hx hn
      · rintro ⟨h1, h2⟩
        exact ⟨h1, fun x hx hn => h2 x (by simp [hx]) hn⟩
theorem ptF_top (g : List Sym) : ∀ (ls : List LitR) (a b : Int), ptF g ls a b = (topL g false (ls.map LitR.c) a, topL g true (ls.map LitR.c) b)
  | [], a, b => rfl
  | l :: ls, a, b => by
    rw [ptF, List.map_cons, topL, topL]
    cases h : l.neg
    · simp only [LitR.c, h, if_true, Bool.false_eq_true, if_false]
      exact ptF_top g ls _ _
    · simp only [LitR.c, h, if_true, Bool.true_eq_false, if_false]
      exact ptF_top g ls _ _
theorem says_under {g : List Sym} (hg : SigOk g) {c d : CC} (h : Says g c d) (neg : Bool) : topL g neg c.ls 0 ≤ topL g neg d.ls 0 := by
  obtain ⟨σ, hσ, h1, _, _⟩ := h
  have h2 := (top_le (g := g) (neg := neg) (ls := d.ls) (a := 0) (n := topL g neg d.ls 0)).1 (Int.le_refl _)
  refine top_le.2 ⟨h2.1, fun l hl hn => ?_⟩
  have h3 := sumW_sub hg hσ l.2
  have h4 := h2.2 _ (h1 l hl) hn
  exact Int.le_trans h3 h4
/-! ### Normal clauses -/
theorem app_map {f : Int → Int} {σ : Sb} : ∀ {a : List Int}, (∀ c ∈ a, 0 ≤ c → f c = c) → (∀ c ∈ a, c < 0 → σ (vN c) = [f c]) → app σ a = a.map f
  | [], _, _ => rfl
  | c :: a, h1, h2 => by
    rw [app_cons, app_map (fun x hx => h1 x (by simp [hx])) (fun x hx => h2 x (by simp [hx])), List.map_cons]
    unfold appC
    split
    · rename_i h0; rw [h1 c (by simp) h0]; rfl
    · rename_i h0; rw [h2 c (by simp) (by omega)]; rfl
theorem says_norm {g : List Sym} {c : CC} (h : ClOk g c) : Says g c (normC c) ∧ Says g (normC c) c := by
  have hs := seenC_len h
  have hcod := cl_codes h
  have hm : ∀ r ∈ c.rows, ∀ x ∈ r, x < 0 → x ∈ seenC c := fun r hr x hx h0 => mem_seenC.2 ⟨h0, r, hr, hx⟩
  have hneg : ∀ x ∈ seenC c, x < 0 ∧ -24 ≤ x := fun x hx => by
    obtain ⟨h0, r, hr, h1⟩ := mem_seenC.1 hx
    exact ⟨h0, (hcod r hr x h1).1⟩
  constructor
  · let σ : Sb := fun v => if (-1 - (v : Int)) ∈ seenC c then [renC (seenC c) (-1 - (v : Int))] else [-1]
    have hσ : σ.Ok g := fun v => by
      show lenN g (if (-1 - (v : Int)) ∈ seenC c then [renC (seenC c) (-1 - (v : Int))] else [-1]) 1 = some (if (-1 - (v : Int)) ∈ seenC c then [renC (seenC c) (-1 - (v : Int))] else [-1]).length
      split
      · rename_i hv
        have h1 := List.idxOf_lt_length_of_mem hv
        refine lenN_one ((ren_neg _ _).2 (by omega)) ?_
        rw [renC, if_neg (by omega)]; omega
      · exact lenN_one (by omega) (by omega)
    have ha : ∀ r ∈ c.rows, app σ r = renR (seenC c) r := fun r hr => by
      refine app_map (fun x _ h0 => by simp [renC, h0]) (fun x hx h0 => ?_)
      have h1 : (-1 - (vN x : Int)) = x := by unfold vN; omega
      show (if (-1 - (vN x : Int)) ∈ seenC c then [renC (seenC c) (-1 - (vN x : Int))] else [-1]) = _
      rw [h1, if_pos (hm r hr x hx h0)]
    refine ⟨σ, hσ, fun l hl => ?_, fun r hr => ?_, fun l hl => ?_⟩
    · rw [ha _ (in_ls hl)]
      exact List.mem_map.2 ⟨l, (mem_once c.ls [] l).2 (.inr hl), rfl⟩
    · rw [ha r (by simp [CC.rows, hr])]
      exact List.mem_map.2 ⟨r, (mem_once c.ts [] r).2 (.inr hr), rfl⟩
    · rw [ha _ (in_cs hl)]
      exact List.mem_map.2 ⟨l, (mem_once c.cs [] l).2 (.inr hl), rfl⟩
  · let τ : Sb := fun v => match (seenC c)[v]? with | some x => [x] | none => [-1]
    have hτ : τ.Ok g := fun v => by
      show lenN g (match (seenC c)[v]? with | some x => [x] | none => [-1]) 1 = some (match (seenC c)[v]? with | some x => [x] | none => [-1]).length
      split
      · rename_i x hx
        have := hneg x (List.mem_of_getElem? hx)
        exact lenN_one this.1 this.2
      · exact lenN_one (by omega) (by omega)
    have hx : ∀ x ∈ seenC c, τ (vN (renC (seenC c) x)) = [x] := fun x hx => by
      have h0 := (hneg x hx).1
      have h1 := List.idxOf_lt_length_of_mem hx
      have h2 : vN (renC (seenC c) x) = (seenC c).idxOf x := by unfold vN; rw [renC, if_neg (by omega)]; omega
      show (match (seenC c)[vN (renC (seenC c) x)]? with | some x => [x] | none => [-1]) = [x]
      rw [h2, List.getElem?_eq_getElem h1, List.getElem_idxOf]
    have hr : ∀ (r : List Int), (∀ x ∈ r, x < 0 → x ∈ seenC c) → app τ (renR (seenC c) r) = r := by
      intro r
      induction r with
      | nil => intro _; rfl
      | cons x r ih =>
        intro h1
        rw [renR, List.map_cons, app_cons]
        have h2 := ih (fun y hy => h1 y (by simp [hy]))
        rw [renR] at h2
        rw [h2]
        unfold appC
        by_cases h0 : 0 ≤ x
        · have : renC (seenC c) x = x := by simp [renC, h0]
          rw [this, if_pos h0]; rfl
        · rw [if_neg (by have := (ren_neg (seenC c) x).2 (by omega); omega), hx x (h1 x (by simp) (by omega))]; rfl
    refine ⟨τ, hτ, fun l hl => ?_, fun r hr' => ?_, fun l hl => ?_⟩
    · obtain ⟨m, hm1, rfl⟩ := List.mem_map.1 hl
      have h1 : m ∈ c.ls := by simpa using (mem_once c.ls [] m).1 hm1
      have h2 := hr m.2 (hm _ (in_ls h1))
      show (m.1, app τ (renR (seenC c) m.2)) ∈ c.ls
      rw [h2]; exact h1
    · obtain ⟨m, hm1, rfl⟩ := List.mem_map.1 hr'
      have h1 : m ∈ c.ts := by simpa using (mem_once c.ts [] m).1 hm1
      rw [hr m (hm m (by simp [CC.rows, h1]))]; exact h1
    · obtain ⟨m, hm1, rfl⟩ := List.mem_map.1 hl
      have h1 : m ∈ c.cs := by simpa using (mem_once c.cs [] m).1 hm1
      have h2 := hr m.2 (hm _ (in_cs h1))
      show (m.1, app τ (renR (seenC c) m.2)) ∈ c.cs
      rw [h2]; exact h1
end Go.Qu

/- Rows that become others: what the program's functions hand back. For every input; no condition. -/
set_option linter.unusedVariables false
set_option linter.unusedSimpArgs false
set_option maxRecDepth 100000
namespace Go.Proofs.YtollbcdhmnnjeaaDoor.Ab
open Go Go.Ab Go.Qu Go.Proofs
attribute [local simp] and_assoc
/-- The table of what stands for variables. -/
def bsD (s : Bs) : List D := (List.range 24).map fun v => match s v with | none => .sl 1 true [] [] | some t => .sl 1 false (ints t) []
theorem bsD_len (s : Bs) : (bsD s).length = 24 := by simp [bsD]
theorem bsD_at (s : Bs) {v : Nat} (hv : v < 24) : (bsD s)[v]? = some (match s v with | none => .sl 1 true [] [] | some t => .sl 1 false (ints t) []) := by
  simp [bsD, hv]
theorem bsD_set (s : Bs) {v : Nat} (hv : v < 24) (t : List Int) : (bsD s).set v (.sl 1 false (ints t) []) = bsD (s.upd v t) := by
  refine List.ext_getElem (by simp [bsD]) (fun i h1 h2 => ?_)
  have hi : i < 24 := by simpa [bsD] using h1
  rw [List.getElem_set]
  by_cases hvi : v = i
  · subst hvi
    rw [if_pos rfl]
    simp [bsD, Bs.upd]
  · rw [if_neg hvi]
    have hne : ¬ i = v := fun e => hvi e.symm
    simp [bsD, Bs.upd, hne]
theorem bsD_none : bsD (fun _ => none) = List.replicate 24 (.sl 1 true [] []) := by
  show (List.range 24).map (fun _ => D.sl 1 true [] []) = _
  rw [List.map_const', List.length_range]
theorem width_one : ∀ (l : List D), (∀ x ∈ l, D.width x = 1) → D.widthL l = l.length
  | [], _ => by simp [D.widthL]
  | x :: l, h => by
    have := width_one l (fun y hy => h y (by simp [hy]))
    simp [D.widthL, h x (by simp), this]; omega
theorem bsD_width (s : Bs) : D.width (.agg (bsD s)) = 24 := by
  rw [D.width, width_one _ (fun x hx => ?_), bsD_len]
  simp only [bsD, List.mem_map] at hx
  obtain ⟨v, _, rfl⟩ := hx
  cases s v <;> simp [D.width]
/-- As the program goes: what stands then, and what is left. -/
def growL (g : List Sym) : Bs → List Int → List Int → Bs × Option (List Int)
  | s, [], b => (s, some b)
  | s, c :: a, b => if b = [] then (s, none) else
    if 0 ≤ c then (if b.head? = some c then growL g s a b.tail else (s, none))
    else match lenN g b 1 with
      | none => (s, none)
      | some k => match s (vN c) with
        | none => growL g (s.upd (vN c) (b.take k)) a (b.drop k)
        | some t => if t = b.take k then growL g s a (b.drop k) else (s, none)
theorem grow_L {g : List Sym} : ∀ (a b : List Int) (s : Bs), growF g s a b = match growL g s a b with | (u, some []) => some u | _ => none
  | [], b, s => by
    rw [growF, growL]
    cases b <;> simp
  | c :: a, b, s => by
    rw [growF, growL]
    by_cases hb : b = []
    · simp only [if_pos hb]
    · simp only [if_neg hb]
      by_cases h0 : 0 ≤ c
      · simp only [if_pos h0]
        by_cases hh : b.head? = some c
        · simp only [if_pos hh]; exact grow_L a _ s
        · simp only [if_neg hh]
      · simp only [if_neg h0]
        cases hl : lenN g b 1 with
        | none => rfl
        | some k =>
          cases hs : s (vN c) with
          | none => exact grow_L a _ _
          | some t =>
            dsimp only
            by_cases ht : t = b.take k
            · simp only [if_pos ht]; exact grow_L a _ s
            · simp only [if_neg ht]
theorem growL_len {g : List Sym} : ∀ (a b : List Int) (s u : Bs) (q : List Int), growL g s a b = (u, some q) → q.length ≤ b.length
  | [], b, s, u, q, h => by rw [growL] at h; cases h; exact Nat.le_refl _
  | c :: a, b, s, u, q, h => by
    rw [growL] at h
    split at h
    · cases h
    · split at h
      · split at h
        · have := growL_len a _ _ _ _ h; simp at this; omega
        · cases h
      · split at h
        · cases h
        · split at h
          · have := growL_len a _ _ _ _ h; simp at this; omega
          · split at h
            · have := growL_len a _ _ _ _ h; simp at this; omega
            · cases h
abbrev bM (s : Bs) : IV := .dbox 73 0 (bsD s)
theorem l_mgrow {g : List Sym} (hg : SigOk g) (z z1 z2 : Bool) (e e1 e2 : List D) {a b : List Int} (ha : a.length ≤ 1000) (hb : b.length ≤ 1000) (hz : z2 = true → b = []) (hc : ∀ c ∈ a, -24 ≤ c) (x : Bs × Nat × Nat) (hx : x.2.1 ≤ a.length ∧ x.2.2 ≤ b.length ∧ ∀ v t, x.1 v = some t → t.length ≤ 1000) :
    evP F (Go.Ab.W F) (JW F d40 [0]) d40 [0] [1,1,0,1] [(0, bM x.1), (1, iG z g e), (3, iS z2 b e2), (9, iI x.2.2), (16, iS z1 a e1), (17, iI a.length), (18, iI x.2.1)] = some (match growL g x.1 (a.drop x.2.1) (b.drop x.2.2) with | (u, some q) => .norm [(0, bM u), (1, iG z g e), (3, iS z2 b e2), (9, iI (b.length - q.length : Nat)), (16, iS z1 a e1), (17, iI a.length), (18, iI a.length)] | (u, none) => .ret [(0, bM u), (8, iB false)]) :=
  blk_fun (F := F) (d := d40) (lk := [0]) (p := [1,1,0,1,0,0]) (p0 := [1,1,0,1]) (id := 0) (by kernel_rfl) (st := fun (x : Bs × Nat × Nat) => [(0, bM x.1), (1, iG z g e), (3, iS z2 b e2), (9, iI x.2.2), (16, iS z1 a e1), (17, iI a.length), (18, iI x.2.1)]) (I := fun x => x.2.1 ≤ a.length ∧ x.2.2 ≤ b.length ∧ ∀ v t, x.1 v = some t → t.length ≤ 1000) (μ := fun x => a.length - x.2.1)
    (res := fun x => match growL g x.1 (a.drop x.2.1) (b.drop x.2.2) with | (u, some q) => .norm [(0, bM u), (1, iG z g e), (3, iS z2 b e2), (9, iI (b.length - q.length : Nat)), (16, iS z1 a e1), (17, iI a.length), (18, iI a.length)] | (u, none) => .ret [(0, bM u), (8, iB false)])
    (fun x hx => by
      obtain ⟨s, i, j⟩ := x
      obtain ⟨hx1, hx2, hx3⟩ := hx
      dsimp only at hx1 hx2 hx3
      by_cases hi : i < a.length
      rotate_left
      · have e0 : i = a.length := by omega
        subst e0
        refine .stop (.exit 0 [(0, bM s), (1, iG z g e), (3, iS z2 b e2), (9, iI j), (16, iS z1 a e1), (17, iI a.length), (18, iI a.length)]) (wpQ_way (q40_l0a _ _ (bsD s) z (syms g) e z2 (ints b) e2 j z1 (ints a) e1 a.length a.length _) (by simp)) rfl ?_
        rw [List.drop_length, growL]
        simp only [blkO, List.length_drop]
        rw [show b.length - (b.length - j) = j by omega]; rfl
      have hci := hc _ (gi_mem hi)
      have hi' : (i : Int) < a.length := by omega
      have hat := Go.Ab.ints_at hi
      have hd := gi_drop hi
      have hw1 := wr1 hi (show a.length ≤ 9223372036854775807 by omega)
      by_cases hj : j < b.length
      rotate_left
      · have hjn : (b.length : Int) ≤ j := by omega
        refine .stop (.ret [(0, bM s), (8, iB false)]) (wpQ_way (q40_l0a _ _ (bsD s) z (syms g) e z2 (ints b) e2 j z1 (ints a) e1 a.length i _) ?_) rfl ?_
        · simp [-Bool.exists_bool, -getElem?_pos, hi', hat, ints_len, hjn]
        · rw [hd, growL, if_pos (drop_ge hj)]; rfl
      have hjn : ¬ (b.length : Int) ≤ j := by omega
      have hjn' : ¬ ((j : Int) ≥ b.length) := by omega
      have hbd : b.drop j ≠ [] := by simp; omega
      have hz2 : z2 = false := by
        cases z2 with
        | false => rfl
        | true => have := hz rfl; subst this; simp at hj
      subst hz2
      by_cases h0 : 0 ≤ gi a i
      · have hbt := Go.Ab.ints_at hj
        by_cases heq : gi b j = gi a i
        · refine .go (s, i + 1, j + 1) (wpQ_way (q40_l0a _ _ (bsD s) z (syms g) e false (ints b) e2 j z1 (ints a) e1 a.length i _) ?_) ⟨by dsimp only; omega, by dsimp only; omega, hx3⟩ (by dsimp only; omega) ?_
          · simp [-Bool.exists_bool, -getElem?_pos, -Int.natCast_add, hi', hat, ints_len, hj, hjn, h0, hbt, heq, hw1, wr1 hj (by omega)]
          · dsimp only
            rw [hd, growL, if_neg hbd, if_pos h0, gi_drop hj]
            simp [heq]
        · refine .stop (.ret [(0, bM s), (8, iB false)]) (wpQ_way (q40_l0a _ _ (bsD s) z (syms g) e false (ints b) e2 j z1 (ints a) e1 a.length i _) ?_) rfl ?_
          · simp [-Bool.exists_bool, -getElem?_pos, -Int.natCast_add, hi', hat, ints_len, hj, hjn, h0, hbt, heq]
          · rw [hd, growL, if_neg hbd, if_pos h0, gi_drop hj]
            simp [heq, blkO]
      · have hsk := w_skip hg z false e e2 (r := b) (by omega) j
        cases hl : lenN g (b.drop j) 1 with
        | none =>
          rw [skB, skV, hl] at hsk
          refine .stop (.ret [(0, bM s), (8, iB false)]) (wpQ_way (q40_l0a _ _ (bsD s) z (syms g) e false (ints b) e2 j z1 (ints a) e1 a.length i _) ?_) rfl ?_
          · simp [-Bool.exists_bool, -getElem?_pos, -Int.natCast_add, hi', hat, ints_len, hj, hjn, h0, hsk]
          · rw [hd, growL, if_neg hbd, if_neg h0, hl]; rfl
        | some k =>
          rw [skB, skV, hl] at hsk
          have hle := lenN_le hl
          simp only [List.length_drop] at hle
          have hn := w_number (gi a i)
          have hv1 : IntKind.wrap .i64 (-1 - gi a i) = (vN (gi a i) : Int) := by rw [wr _ (by omega) (by omega)]; unfold vN; omega
          rw [hv1] at hn
          have hv24 : vN (gi a i) < 24 := by unfold vN; omega
          obtain ⟨v, hv⟩ : ∃ v, v = vN (gi a i) := ⟨_, rfl⟩
          rw [← hv] at hn hv24
          have hvi : (v : Int) < 24 := by omega
          have hba := bsD_at s hv24
          have hpc : List.drop j (tkX (j + k) (ints b) e2) = ints ((b.drop j).take k) := by
            rw [tkX_ints (by omega), ints_drop, List.drop_take, Nat.add_sub_cancel_left]
          have hpc' : List.drop j (match e2 with | [] => List.take (j + k) (ints b) | x => List.take (j + k) (ints b ++ e2)) = ints ((b.drop j).take k) := hpc
          have hk1 : (j : Int) ≤ ((j + k : Nat) : Int) := by omega
          have hk2 : ((j + k : Nat) : Int) ≤ ((b.length + e2.length : Nat) : Int) := by omega
          have hk3 : ((j + k : Nat) : Int) ≤ (b.length : Int) + (e2.length : Int) := by omega
          have htl : Len ((b.drop j).take k) := by unfold Len; simp; omega
          have hvle : v + 1 ≤ 24 := hv24
          have hv23 : (v : Int) ≤ 23 := by omega
          cases hs : s v with
          | none =>
            rw [hs] at hba
            have hset := bsD_set s hv24 ((b.drop j).take k)
            have hba2 := bsD_at (s.upd v ((b.drop j).take k)) hv24
            have hu : (s.upd v ((b.drop j).take k)) v = some ((b.drop j).take k) := by simp [Bs.upd]
            rw [hu] at hba2
            have heq := w_equal htl ((b.drop j).take k) false false [] []
            rw [decide_eq_true rfl] at heq
            refine .go (s.upd v ((b.drop j).take k), i + 1, j + k) (wpQ_way (q40_l0a _ _ (bsD s) z (syms g) e false (ints b) e2 j z1 (ints a) e1 a.length i _) ?_) ⟨by dsimp only; omega, by dsimp only; omega, fun w t ht => ?_⟩ (by dsimp only; omega) ?_
            · simp [-Bool.exists_bool, -getElem?_pos, -Int.natCast_add, -List.length_take, -List.length_drop, hi', hat, ints_len, hj, hjn, h0, hsk, hn, hvi, hv23, hba, hpc, hpc', hk1, hk2, hk3, bsD_len, hvle, D.cells, setR, hset, hba2, heq, hw1]
            · simp only [Bs.upd] at ht
              split at ht
              · cases ht; simp; omega
              · exact hx3 w t ht
            · dsimp only
              rw [hd, growL, if_neg hbd, if_neg h0, hl]
              simp only [← hv, hs, List.drop_drop]
          | some t =>
            rw [hs] at hba
            have htl2 : Len t := by have := hx3 v t hs; unfold Len; omega
            have heq := w_equal htl2 ((b.drop j).take k) false false [] []
            by_cases ht : t = (b.drop j).take k
            · rw [decide_eq_true ht] at heq
              refine .go (s, i + 1, j + k) (wpQ_way (q40_l0a _ _ (bsD s) z (syms g) e false (ints b) e2 j z1 (ints a) e1 a.length i _) ?_) ⟨by dsimp only; omega, by dsimp only; omega, hx3⟩ (by dsimp only; omega) ?_
              · simp [-Bool.exists_bool, -getElem?_pos, -Int.natCast_add, -List.length_take, -List.length_drop, hi', hat, ints_len, hj, hjn, h0, hsk, hn, hvi, hv23, hba, hpc, hpc', hk1, hk2, hk3, heq, hw1]
              · dsimp only
                rw [hd, growL, if_neg hbd, if_neg h0, hl]
                simp only [← hv, hs, List.drop_drop]
                rw [if_pos ht]
            · rw [decide_eq_false ht] at heq
              refine .stop (.ret [(0, bM s), (8, iB false)]) (wpQ_way (q40_l0a _ _ (bsD s) z (syms g) e false (ints b) e2 j z1 (ints a) e1 a.length i _) ?_) rfl ?_
              · simp [-Bool.exists_bool, -getElem?_pos, -Int.natCast_add, -List.length_take, -List.length_drop, hi', hat, ints_len, hj, hjn, h0, hsk, hn, hvi, hv23, hba, hpc, hpc', hk1, hk2, hk3, heq]
              · rw [hd, growL, if_neg hbd, if_neg h0, hl]
                simp only [← hv, hs]
                rw [if_neg ht]; rfl) x hx
theorem w_mgrow {g : List Sym} (hg : SigOk g) (z z1 z2 : Bool) (e e1 e2 : List D) {a b : List Int} (ha : a.length ≤ 1000) (hb : b.length ≤ 1000) (hz : z2 = true → b = []) (hc : ∀ c ∈ a, -24 ≤ c) {s : Bs} (hs : ∀ v t, s v = some t → t.length ≤ 1000) :
    C 40 [bM s, iG z g e, iS z1 a e1, iS z2 b e2] = some (iB (growF g s a b).isSome, [bM (growL g s a b).1, iG z g e, iS z1 a e1, iS z2 b e2]) := by
  refine wfn (lk := [0]) rfl rfl (fnW_way (q40 _ _ (bsD s) z (syms g) e z1 (ints a) e1 z2 (ints b) e2 _) ?_)
  have h1 := l_mgrow hg z z1 z2 e e1 e2 ha hb hz hc (s, 0, 0) ⟨Nat.zero_le _, Nat.zero_le _, hs⟩
  dsimp only at h1
  rw [List.drop_zero, List.drop_zero] at h1
  rw [ints_len, grow_L]
  have hql := growL_len (g := g) a b s
  rcases hr : growL g s a b with ⟨u, q⟩
  rw [hr] at h1
  cases q with
  | none => exact .inl ⟨_, _, h1, rfl⟩
  | some q =>
    have hq := hql u q hr
    refine .inr ⟨_, _, _, _, _, _, _, _, _, _, _, _, _, h1, ?_⟩
    rw [ints_len]
    cases q with
    | nil => exact condW_t (by simp) rfl
    | cons x q =>
      have : ¬ ((b.length - (x :: q).length : Nat) : Int) = b.length := by simp at hq ⊢; omega
      exact condW_f (by simpa using this) rfl
end Go.Proofs.YtollbcdhmnnjeaaDoor.Ab

/- Which term is more: where it is put in, with terms put in, through a third one. Plain lists; no condition. -/
set_option linter.unusedVariables false
set_option linter.unusedSimpArgs false
namespace Go.Qu
open Go Go.Ab

/-- How often a code stands. -/
def occ (a : List Int) (v : Nat) : Nat := a.count (-1 - (v : Int))
def covB (a b : List Int) : Bool := (List.range 24).all fun v => decide (occ b v ≤ occ a v)
/-- The terms of codes, as far as there are any. -/
def pcs (g : List Sym) (r : List Int) : List (List Int) :=
  if hr : r = [] then [] else match h : lenN g r 1 with
    | none => []
    | some k => r.take k :: pcs g (r.drop k)
termination_by r.length
decreasing_by
  have := lenN_le h
  have : r.length ≠ 0 := fun e => hr (List.length_eq_zero_iff.1 e)
  simp; omega
theorem pcs_nil (g : List Sym) : pcs g [] = [] := by rw [pcs]; simp
theorem pcs_none {g : List Sym} {r : List Int} (hr : r ≠ []) (h : lenN g r 1 = none) : pcs g r = [] := by
  rw [pcs]; rw [dif_neg hr]; split
  · rfl
  · rename_i k hk; rw [h] at hk; cases hk
theorem pcs_some {g : List Sym} {r : List Int} {k : Nat} (hr : r ≠ []) (h : lenN g r 1 = some k) : pcs g r = r.take k :: pcs g (r.drop k) := by
  rw [pcs]; rw [dif_neg hr]; split
  · rename_i hk; rw [h] at hk; cases hk
  · rename_i k' hk; rw [h] at hk; cases hk; rfl
theorem pcs_parts {g : List Sym} : ∀ (n : Nat) {r : List Int} {ts : List (List Int)}, r.length ≤ n → parts g r = some ts → pcs g r = ts
  | n, r, ts, hn, h => by
    rcases parts_cases h with ⟨rfl, rfl⟩ | ⟨k, us, h1, h2, rfl, h3⟩
    · exact pcs_nil g
    · have h4 := lenN_le h1
      cases n with
      | zero => exact absurd (List.length_eq_zero_iff.1 (by omega)) h3
      | succ n =>
        rw [pcs_some h3 h1, pcs_parts n (by simp; omega) h2]
theorem pcs_len {g : List Sym} : ∀ (n : Nat) {r : List Int}, r.length ≤ n → ∀ x ∈ pcs g r, x ≠ [] ∧ x.length ≤ r.length
  | n, r, hn, x, hx => by
    by_cases hr : r = []
    · subst hr; rw [pcs_nil] at hx; cases hx
    · cases h : lenN g r 1 with
      | none => rw [pcs_none hr h] at hx; cases hx
      | some k =>
        rw [pcs_some hr h] at hx
        have h4 := lenN_le h
        rcases List.mem_cons.1 hx with rfl | hx
        · refine ⟨fun e => ?_, by simp [Nat.min_le_right]⟩
          have := congrArg List.length e
          simp at this
          rcases this with h5 | h5
          · omega
          · exact hr h5
        · cases n with
          | zero => exact absurd (List.length_eq_zero_iff.1 (by omega)) hr
          | succ n =>
            have := pcs_len n (r := r.drop k) (by simp; omega) x hx
            exact ⟨this.1, Nat.le_trans this.2 (by simp)⟩
def unlF : List (List Int) → List (List Int) → Option (List Int × List Int)
  | x :: xs, y :: ys => if x = y then unlF xs ys else some (x, y)
  | _, _ => none
theorem unl_mem : ∀ {xs ys : List (List Int)} {x y : List Int}, unlF xs ys = some (x, y) → x ∈ xs ∧ y ∈ ys
  | [], ys, x, y, h => by simp [unlF] at h
  | a :: xs, [], x, y, h => by simp [unlF] at h
  | a :: xs, b :: ys, x, y, h => by
    rw [unlF] at h
    split at h
    · have := unl_mem h
      exact ⟨List.mem_cons_of_mem _ this.1, List.mem_cons_of_mem _ this.2⟩
    · cases h; simp
/-- Is one more than the other? -/
def moreF (g : List Sym) : Nat → List Int → List Int → Bool
  | 0, _, _ => false
  | n + 1, a, b => if covB a b = false then false else if sumW g a ≠ sumW g b then decide (sumW g b < sumW g a) else
    if gi a 0 ≠ gi b 0 then decide (gi b 0 < gi a 0) else match unlF (pcs g a.tail) (pcs g b.tail) with
      | none => false
      | some (x, y) => moreF g n x y
/-- The same, said once. -/
inductive More (g : List Sym) : List Int → List Int → Prop
  | sum {a b : List Int} : covB a b = true → sumW g b < sumW g a → More g a b
  | head {a b : List Int} : covB a b = true → sumW g a = sumW g b → gi b 0 < gi a 0 → More g a b
  | arg {a b x y : List Int} : covB a b = true → sumW g a = sumW g b → gi a 0 = gi b 0 → unlF (pcs g a.tail) (pcs g b.tail) = some (x, y) → More g x y → More g a b
theorem more_of {g : List Sym} : ∀ {n : Nat} {a b : List Int}, moreF g n a b = true → More g a b
  | 0, a, b, h => by simp [moreF] at h
  | n + 1, a, b, h => by
    rw [moreF] at h
    split at h
    · cases h
    · rename_i hc
      have hc : covB a b = true := by simpa using hc
      split at h
      · exact .sum hc (by simpa using h)
      · rename_i hs
        have hs : sumW g a = sumW g b := by simpa using hs
        split at h
        · exact .head hc hs (by simpa using h)
        · rename_i hh
          have hh : gi a 0 = gi b 0 := by simpa using hh
          split at h
          · cases h
          · rename_i x y hu
            exact .arg hc hs hh hu (more_of h)
theorem more_to {g : List Sym} {a b : List Int} (h : More g a b) : ∀ {n : Nat}, a.length ≤ n → a ≠ [] → moreF g n a b = true := by
  induction h with
  | sum hc hs =>
    intro n hn ha
    cases n with
    | zero => exact absurd (List.length_eq_zero_iff.1 (by omega)) ha
    | succ n =>
      rw [moreF, if_neg (by simp [hc]), if_pos (by omega)]; simpa using hs
  | head hc hs hh =>
    intro n hn ha
    cases n with
    | zero => exact absurd (List.length_eq_zero_iff.1 (by omega)) ha
    | succ n =>
      rw [moreF, if_neg (by simp [hc]), if_neg (by simp [hs]), if_pos (by omega)]; simpa using hh
  | @arg a b x y hc hs hh hu hm ih =>
    intro n hn ha
    cases n with
    | zero => exact absurd (List.length_eq_zero_iff.1 (by omega)) ha
    | succ n =>
      have h1 := pcs_len (g := g) _ (Nat.le_refl _) x (unl_mem hu).1
      rw [moreF, if_neg (by simp [hc]), if_neg (by simp [hs]), if_neg (by simp [hh]), hu]
      refine ih ?_ h1.1
      have : a.length ≠ 0 := fun e => ha (List.length_eq_zero_iff.1 e)
      have h2 := h1.2
      simp at h2
      omega
theorem more_cov {g : List Sym} {a b : List Int} (h : More g a b) : covB a b = true ∧ sumW g b ≤ sumW g a := by
  cases h with
  | sum h1 h2 => exact ⟨h1, by omega⟩
  | head h1 h2 _ => exact ⟨h1, by omega⟩
  | arg h1 h2 _ _ _ => exact ⟨h1, by omega⟩
theorem unl_self : ∀ (xs : List (List Int)), unlF xs xs = none
  | [] => rfl
  | x :: xs => by rw [unlF, if_pos rfl]; exact unl_self xs
theorem more_irr {g : List Sym} {a : List Int} : ¬ More g a a := by
  intro h
  cases h with
  | sum _ h => omega
  | head _ _ h => omega
  | arg _ _ _ h _ => rw [unl_self] at h; cases h
theorem cov_iff {a b : List Int} : covB a b = true ↔ ∀ v, v < 24 → occ b v ≤ occ a v := by
  unfold covB
  rw [List.all_eq_true]
  exact ⟨fun h v hv => by simpa using h v (List.mem_range.2 hv), fun h v hv => by simpa using h v (List.mem_range.1 hv)⟩
theorem cov_trans {a b c : List Int} (h : covB a b = true) (h' : covB b c = true) : covB a c = true :=
  cov_iff.2 fun v hv => Nat.le_trans (cov_iff.1 h' v hv) (cov_iff.1 h v hv)
theorem unl_trans {g : List Sym} : ∀ {xa xb xc : List (List Int)} {x y y' z : List Int}, unlF xa xb = some (x, y) → unlF xb xc = some (y', z) → More g x y → More g y' z → (∀ w, More g y w → More g x w) → ∃ p q, unlF xa xc = some (p, q) ∧ More g p q
  | [], _, _, x, y, y', z, h, h', _, _, _ => by simp [unlF] at h
  | a :: xa, [], _, x, y, y', z, h, h', _, _, _ => by simp [unlF] at h
  | a :: xa, b :: xb, [], x, y, y', z, h, h', _, _, _ => by simp [unlF] at h'
  | a :: xa, b :: xb, c :: xc, x, y, y', z, h, h', m1, m2, ih => by
    rw [unlF] at h h'
    by_cases e1 : a = b
    · subst e1
      rw [if_pos rfl] at h
      by_cases e2 : a = c
      · subst e2
        rw [if_pos rfl] at h'
        obtain ⟨p, q, h1, h2⟩ := unl_trans h h' m1 m2 ih
        exact ⟨p, q, by rw [unlF, if_pos rfl]; exact h1, h2⟩
      · rw [if_neg e2] at h'
        cases h'
        exact ⟨a, c, by rw [unlF, if_neg e2], m2⟩
    · rw [if_neg e1] at h
      cases h
      by_cases e2 : b = c
      · subst e2
        exact ⟨a, b, by rw [unlF, if_neg e1], m1⟩
      · rw [if_neg e2] at h'
        cases h'
        have m3 := ih _ m2
        have e3 : a ≠ c := fun e => by subst e; exact more_irr m3
        exact ⟨a, c, by rw [unlF, if_neg e3], m3⟩
theorem more_trans {g : List Sym} {a b : List Int} (h : More g a b) : ∀ {c : List Int}, More g b c → More g a c := by
  induction h with
  | sum h1 h2 =>
    intro c h'
    have := more_cov h'
    exact .sum (cov_trans h1 this.1) (by omega)
  | head h1 h2 h3 =>
    intro c h'
    cases h' with
    | sum k1 k2 => exact .sum (cov_trans h1 k1) (by omega)
    | head k1 k2 k3 => exact .head (cov_trans h1 k1) (by omega) (by omega)
    | arg k1 k2 k3 _ _ => exact .head (cov_trans h1 k1) (by omega) (by omega)
  | arg h1 h2 h3 h4 h5 ih =>
    intro c h'
    cases h' with
    | sum k1 k2 => exact .sum (cov_trans h1 k1) (by omega)
    | head k1 k2 k3 => exact .head (cov_trans h1 k1) (by omega) (by omega)
    | arg k1 k2 k3 k4 k5 =>
      obtain ⟨p, q, h6, h7⟩ := unl_trans h4 k4 h5 k5 (fun w m => ih m)
      exact .arg (cov_trans h1 k1) (by omega) (by omega) h6 h7
/-! ### With terms put in -/
/-- A sum over the variables of codes. -/
def nsum (h : Int → Nat) : List Int → Nat
  | [] => 0
  | c :: a => (if c < 0 then h c else 0) + nsum h a
theorem nsum_erase (h : Int → Nat) {c : Int} : ∀ {a : List Int}, c ∈ a → nsum h a = (if c < 0 then h c else 0) + nsum h (a.erase c)
  | [], hc => by cases hc
  | d :: a, hc => by
    by_cases e : d = c
    · subst e; simp [nsum]
    · have hc' : c ∈ a := by
        rcases List.mem_cons.1 hc with h1 | h1
        · exact absurd h1.symm e
        · exact h1
      rw [List.erase_cons_tail (by simpa using e)]
      simp only [nsum]
      rw [nsum_erase h hc']; omega
theorem nsum_le (h : Int → Nat) : ∀ {b a : List Int}, (∀ c, c < 0 → b.count c ≤ a.count c) → nsum h b ≤ nsum h a
  | [], a, hc => by simp [nsum]
  | d :: b, a, hc => by
    by_cases hd : d < 0
    · have h1 := hc d hd
      rw [List.count_cons_self] at h1
      have hm : d ∈ a := List.count_pos_iff.1 (by omega)
      have ih := nsum_le h (b := b) (a := a.erase d) (fun c hcn => by
        have h2 := hc c hcn
        rw [List.count_cons] at h2
        rw [List.count_erase]
        by_cases e : d = c
        · subst e; simp at h2 ⊢; omega
        · have e1 : (d == c) = false := by simpa using e
          rw [e1] at h2 ⊢
          simpa using h2)
      rw [nsum_erase h hm, nsum, if_pos hd]; omega
    · have ih := nsum_le h (b := b) (a := a) (fun c hcn => by
        have h2 := hc c hcn
        rw [List.count_cons] at h2
        omega)
      rw [nsum, if_neg hd]; omega
theorem cov_count {a b : List Int} (h : covB a b = true) (hb : ∀ c ∈ b, -24 ≤ c) : ∀ c, c < 0 → b.count c ≤ a.count c := by
  intro c hc
  by_cases h24 : -24 ≤ c
  · have := cov_iff.1 h (-1 - c).toNat (by omega)
    unfold occ at this
    have e : (-1 - (((-1 - c).toNat : Nat) : Int)) = c := by omega
    rw [e] at this
    exact this
  · have : ¬ c ∈ b := fun hm => h24 (hb c hm)
    rw [List.count_eq_zero.2 this]; omega
theorem count_cov {a b : List Int} (h : ∀ c, c < 0 → b.count c ≤ a.count c) : covB a b = true := cov_iff.2 fun v hv => h _ (by omega)
theorem app_count {σ : Sb} {c : Int} (hc : c < 0) : ∀ (a : List Int), (app σ a).count c = nsum (fun d => (σ (vN d)).count c) a
  | [] => by simp [app, nsum]
  | d :: a => by
    rw [app_cons, List.count_append, app_count hc a, nsum]
    unfold appC
    by_cases hd : 0 ≤ d
    · rw [if_pos hd, if_neg (by omega)]
      have : (d == c) = false := by simp; omega
      rw [List.count_cons, this]; simp
    · rw [if_neg hd, if_pos (by omega)]
theorem app_cov {σ : Sb} {a b : List Int} (h : ∀ c, c < 0 → b.count c ≤ a.count c) : ∀ c, c < 0 → (app σ b).count c ≤ (app σ a).count c := by
  intro c hc
  rw [app_count hc, app_count hc]
  exact nsum_le _ h
theorem app_sum {g : List Sym} (hg : SigOk g) {σ : Sb} (hσ : σ.Ok g) : ∀ (a : List Int), sumW g (app σ a) = sumW g a + nsum (fun d => (sumW g (σ (vN d)) - 1).toNat) a
  | [] => by simp [app, sumW, nsum]
  | d :: a => by
    rw [app_cons, sumW_app, app_sum hg hσ a, nsum, sumW]
    unfold appC
    by_cases hd : 0 ≤ d
    · rw [if_pos hd, if_neg (by omega)]
      simp [sumW]; omega
    · rw [if_neg hd, if_pos (by omega)]
      have h1 := one_codes (hσ (vN d))
      have h2 := sumW_le hg _ h1.2
      have h3 : codeW g d = 1 := by rw [codeW, if_pos (by omega)]
      omega
/-- A row of one term. -/
abbrev One (g : List Sym) (t : List Int) : Prop := lenN g t 1 = some t.length
theorem one_cons {g : List Sym} {t : List Int} (h : One g t) : ∃ c r a, t = c :: r ∧ arOf g c = some a ∧ lenN g r a = some r.length := by
  cases t with
  | nil => simp [One, lenN] at h
  | cons c r =>
    obtain ⟨a, m, h1, h2, h3⟩ := lenN_some (n := 0) h
    rw [Nat.zero_add] at h2
    refine ⟨c, r, a, rfl, h1, ?_⟩
    simp only [List.length_cons] at h3
    rw [h2]; congr 1; omega
theorem one_var {g : List Sym} {c : Int} {r : List Int} (h : One g (c :: r)) (hc : c < 0) : r = [] := by
  obtain ⟨c', r', a, h1, h2, h3⟩ := one_cons h
  cases h1
  rw [arOf, if_pos hc] at h2
  split at h2
  · cases h2
    cases r with
    | nil => rfl
    | cons d r => simp [lenN] at h3
  · cases h2
theorem one_24 {g : List Sym} {t : List Int} (h : One g t) : ∀ c ∈ t, -24 ≤ c := by
  have h1 := parts_one h
  rw [List.take_length] at h1
  exact fun c hc => (arOf_lt (parts_codes _ t (Nat.le_refl _) h1 c hc)).1
/-- Rows of so many terms: pieces of one. -/
theorem pcs_row {g : List Sym} : ∀ {n : Nat} {r : List Int}, lenN g r n = some r.length → (∀ x ∈ pcs g r, One g x) ∧ (pcs g r).flatten = r ∧ (pcs g r).length = n
  | 0, r, h => by
    have : r = [] := by cases r <;> simp [lenN] at h <;> first | rfl | skip
    subst this
    simp [pcs_nil]
  | n + 1, r, h => by
    obtain ⟨k1, k2, h1, h2, h3⟩ := lenN_first h
    have hk := lenN_le h1
    have hr : r ≠ [] := fun e => by subst e; simp at hk; omega
    have ih := pcs_row (n := n) (r := r.drop k1) (by rw [h2]; simp; omega)
    rw [pcs_some hr h1]
    have ht : One g (r.take k1) := by
      have := lenN_take h1
      unfold One; rw [this]; simp; omega
    refine ⟨fun x hx => ?_, ?_, by simp [ih.2.2]⟩
    · rcases List.mem_cons.1 hx with rfl | hx
      · exact ht
      · exact ih.1 x hx
    · rw [List.flatten_cons, ih.2.1, List.take_append_drop]
theorem pcs_flat {g : List Sym} : ∀ {ts : List (List Int)}, (∀ x ∈ ts, One g x) → pcs g ts.flatten = ts
  | [], _ => pcs_nil g
  | t :: ts, h => by
    have h1 := h t (by simp)
    have h2 := lenN_le h1
    have h3 := lenN_app ts.flatten h1
    have hne : t ++ ts.flatten ≠ [] := fun e => by
      have := congrArg List.length e
      simp at this
      have : t.length = 0 := by rw [this.1]; rfl
      omega
    rw [List.flatten_cons, pcs_some hne h3, List.take_left, List.drop_left, pcs_flat (fun x hx => h x (List.mem_cons_of_mem _ hx))]
theorem app_flat (σ : Sb) : ∀ (ts : List (List Int)), app σ ts.flatten = (ts.map (app σ)).flatten
  | [] => rfl
  | t :: ts => by rw [List.flatten_cons, app_app, app_flat σ ts, List.map_cons, List.flatten_cons]
theorem pcs_app {g : List Sym} {σ : Sb} (hσ : σ.Ok g) {n : Nat} {r : List Int} (h : lenN g r n = some r.length) : pcs g (app σ r) = (pcs g r).map (app σ) := by
  obtain ⟨h1, h2, _⟩ := pcs_row h
  rw (config := {occs := .pos [1]}) [← h2]
  rw [app_flat]
  exact pcs_flat fun x hx => by
    obtain ⟨y, hy, rfl⟩ := List.mem_map.1 hx
    exact app_lenN hσ (h1 y hy)
theorem unl_map {f : List Int → List Int} : ∀ {xa xb : List (List Int)} {x y : List Int}, unlF xa xb = some (x, y) → f x ≠ f y → unlF (xa.map f) (xb.map f) = some (f x, f y)
  | [], xb, x, y, h, hn => by simp [unlF] at h
  | a :: xa, [], x, y, h, hn => by simp [unlF] at h
  | a :: xa, b :: xb, x, y, h, hn => by
    rw [unlF] at h
    rw [List.map_cons, List.map_cons, unlF]
    split at h
    · rename_i e; subst e
      rw [if_pos rfl]; exact unl_map h hn
    · cases h; rw [if_neg hn]
/-- With terms put in, what is more is more. -/
theorem more_app {g : List Sym} (hg : SigOk g) {σ : Sb} (hσ : σ.Ok g) {a b : List Int} (h : More g a b) : One g a → One g b → More g (app σ a) (app σ b) := by
  induction h with
  | @sum a b h1 h2 =>
    intro ha hb
    have hc := cov_count h1 (one_24 hb)
    refine .sum (count_cov (app_cov hc)) ?_
    rw [app_sum hg hσ, app_sum hg hσ]
    have := nsum_le (fun d => (sumW g (σ (vN d)) - 1).toNat) hc
    omega
  | @head a b h1 h2 h3 =>
    intro ha hb
    have hc := cov_count h1 (one_24 hb)
    have hn := nsum_le (fun d => (sumW g (σ (vN d)) - 1).toNat) hc
    by_cases hs : sumW g (app σ b) < sumW g (app σ a)
    · exact .sum (count_cov (app_cov hc)) hs
    have hs2 : sumW g (app σ a) = sumW g (app σ b) := by
      rw [app_sum hg hσ, app_sum hg hσ] at hs ⊢; omega
    obtain ⟨c, r, n, rfl, k1, k2⟩ := one_cons ha
    obtain ⟨d, r', m, rfl, k3, k4⟩ := one_cons hb
    have h3' : d < c := by simpa [gi] using h3
    by_cases hd : d < 0
    · -- b is a variable, which stands in a; a begins with a symbol, or is another variable
      exfalso
      have := one_var hb hd
      subst this
      have h5 := hc d hd
      rw [List.count_cons_self] at h5
      have hm : d ∈ c :: r := List.count_pos_iff.1 (by omega)
      rcases List.mem_cons.1 hm with e | hm
      · omega
      · have h6 : 0 ≤ c := by
          by_cases hc0 : c < 0
          · have := one_var ha hc0
            subst this; cases hm
          · omega
        have h7 := one_codes ha
        have h8 := sumW_le hg _ h7.2
        have h9 : sumW g [d] = 1 := by simp [sumW, codeW, hd]
        have h10 : 1 ≤ r.length := List.length_pos_iff.2 (List.ne_nil_of_mem hm)
        rw [h9] at h2
        rw [h2] at h8
        simp at h8
        omega
    · refine .head (count_cov (app_cov hc)) hs2 ?_
      rw [app_cons, app_cons]
      unfold appC
      rw [if_pos (by omega), if_pos (by omega)]
      simpa [gi] using h3'
  | @arg a b x y h1 h2 h3 h4 h5 ih =>
    intro ha hb
    have hc := cov_count h1 (one_24 hb)
    have hn := nsum_le (fun d => (sumW g (σ (vN d)) - 1).toNat) hc
    by_cases hs : sumW g (app σ b) < sumW g (app σ a)
    · exact .sum (count_cov (app_cov hc)) hs
    have hs2 : sumW g (app σ a) = sumW g (app σ b) := by
      rw [app_sum hg hσ, app_sum hg hσ] at hs ⊢; omega
    obtain ⟨c, r, n, rfl, k1, k2⟩ := one_cons ha
    obtain ⟨d, r', m, rfl, k3, k4⟩ := one_cons hb
    have h3' : c = d := by simpa [gi] using h3
    subst h3'
    by_cases hd : c < 0
    · have := one_var ha hd
      subst this
      simp [pcs_nil, unlF] at h4
    · rw [List.tail_cons, List.tail_cons] at h4
      have hx := (pcs_row k2).1 x (unl_mem h4).1
      have hy := (pcs_row k4).1 y (unl_mem h4).2
      have hm := ih hx hy
      refine .arg (count_cov (app_cov hc)) hs2 ?_ ?_ hm
      · rw [app_cons, app_cons]; unfold appC; rw [if_pos (by omega)]; simp [gi]
      · rw [app_cons, app_cons]
        unfold appC
        rw [if_pos (by omega)]
        rw [List.singleton_append, List.singleton_append, List.tail_cons, List.tail_cons, pcs_app hσ k2, pcs_app hσ k4]
        exact unl_map h4 (fun e => more_irr (e ▸ hm))
/-! ### Within a term -/
/-- A term put in a term's place. -/
theorem repl_lenN {g : List Sym} {s t : List Int} (hs : One g s) (ht : One g t) : ∀ {p q : List Int} {n k : Nat}, lenN g (p ++ (s ++ q)) n = some k → p.length < k → ∃ m, lenN g q m = some (k - p.length - s.length) ∧ p.length + s.length ≤ k ∧ lenN g (p ++ (t ++ q)) n = some (k - s.length + t.length)
  | p, q, 0, k, h, hk => by
    have : k = 0 := by
      cases hh : p ++ (s ++ q) <;> rw [hh] at h <;> simp [lenN] at h <;> omega
    omega
  | [], q, n + 1, k, h, hk => by
    rw [List.nil_append] at h ⊢
    have h1 := lenN_split (r := s ++ q) (n := 1) n (lenN_app q hs)
    have h2 := lenN_split (r := t ++ q) (n := 1) n (lenN_app q ht)
    rw [Nat.add_comm 1 n, h, List.drop_left] at h1
    rw [Nat.add_comm 1 n, List.drop_left] at h2
    cases hq : lenN g q n with
    | none => rw [hq] at h1; cases h1
    | some m =>
      rw [hq] at h1 h2
      simp at h1 h2
      subst h1
      refine ⟨n, by rw [hq]; simp, by simp, ?_⟩
      rw [h2]; simp; omega
  | c :: p, q, n + 1, k, h, hk => by
    rw [List.cons_append] at h ⊢
    obtain ⟨a, m, h1, h2, rfl⟩ := lenN_some h
    simp at hk
    have hs1 := lenN_le hs
    obtain ⟨m', h3, h4, h5⟩ := repl_lenN hs ht h2 hk
    refine ⟨m', by rw [h3]; simp <;> omega, by simp <;> omega, ?_⟩
    rw [lenN_cons h1, h5]
    simp; omega
/-- Where a term stands within a row: in one of its terms. -/
theorem in_piece {g : List Sym} {s : List Int} (hs : One g s) : ∀ {ts : List (List Int)} {p q : List Int}, (∀ x ∈ ts, One g x) → ts.flatten = p ++ (s ++ q) → ∃ us x vs p' q', ts = us ++ x :: vs ∧ x = p' ++ (s ++ q') ∧ p = us.flatten ++ p' ∧ q = q' ++ vs.flatten
  | [], p, q, h, e => by
    have h1 := lenN_le hs
    have := congrArg List.length e
    simp only [List.flatten_nil, List.length_nil, List.length_append] at this
    omega
  | t :: ts, p, q, h, e => by
    have ht := h t (by simp)
    have hs1 := lenN_le hs
    by_cases hp : t.length ≤ p.length
    · have e1 : p = t ++ p.drop t.length := by
        have := congrArg (List.take t.length) e
        rw [List.flatten_cons, List.take_left, List.take_append_of_le_length hp] at this
        calc p = p.take t.length ++ p.drop t.length := (List.take_append_drop ..).symm
          _ = t ++ p.drop t.length := by rw [← this]
      generalize p.drop t.length = p1 at e1
      subst e1
      rw [List.flatten_cons, List.append_assoc] at e
      have e := List.append_cancel_left e
      obtain ⟨us, x, vs, p', q', h1, h2, h3, h4⟩ := in_piece hs (fun x hx => h x (List.mem_cons_of_mem _ hx)) e
      exact ⟨t :: us, x, vs, p', q', by rw [h1]; rfl, h2, by rw [h3]; simp, h4⟩
    · -- it begins within t
      have hi := lenN_inner (k := t.length) ht p.length (by omega)
      obtain ⟨j, hj⟩ := hi
      have e2 : (t ++ ts.flatten).drop p.length = s ++ q := by
        rw [← List.flatten_cons, e, List.drop_left]
      rw [List.drop_append_of_le_length (by omega)] at e2
      have h5 := lenN_app ts.flatten hj
      rw [e2, lenN_app q hs] at h5
      cases h5
      have h6 := (lenN_le hj).1
      simp at h6
      have e3 : t = p ++ t.drop p.length := by
        have := congrArg (List.take p.length) e
        rw [List.flatten_cons, List.take_left, List.take_append_of_le_length (by omega)] at this
        calc t = t.take p.length ++ t.drop p.length := (List.take_append_drop ..).symm
          _ = p ++ t.drop p.length := by rw [this]
      have e4 : t.drop p.length = s ++ (t.drop p.length).drop s.length := by
        have := congrArg (List.take s.length) e2
        rw [List.take_append_of_le_length (by simp; omega), List.take_left] at this
        calc t.drop p.length = (t.drop p.length).take s.length ++ (t.drop p.length).drop s.length := (List.take_append_drop ..).symm
          _ = s ++ (t.drop p.length).drop s.length := by rw [this]
      generalize hq' : (t.drop p.length).drop s.length = q' at e4
      rw [e4, List.append_assoc] at e2
      have e5 := List.append_cancel_left e2
      exact ⟨[], t, ts, p, q', rfl, by rw [← e4]; exact e3, by simp, e5.symm⟩
theorem count_in (p s t q : List Int) (c : Int) (h : t.count c ≤ s.count c) : (p ++ (t ++ q)).count c ≤ (p ++ (s ++ q)).count c := by
  simp only [List.count_append]; omega
theorem unl_at : ∀ (us : List (List Int)) {x y : List Int} (vs ws : List (List Int)), x ≠ y → unlF (us ++ x :: vs) (us ++ y :: ws) = some (x, y)
  | [], x, y, vs, ws, h => by rw [List.nil_append, List.nil_append, unlF, if_neg h]
  | u :: us, x, y, vs, ws, h => by rw [List.cons_append, List.cons_append, unlF, if_pos rfl]; exact unl_at us vs ws h
/-- In a term's place what is more makes more. -/
theorem more_in {g : List Sym} {s t : List Int} (hs : One g s) (ht : One g t) (h : More g s t) : ∀ (n : Nat) {p q : List Int}, (p ++ (s ++ q)).length ≤ n → One g (p ++ (s ++ q)) → More g (p ++ (s ++ q)) (p ++ (t ++ q))
  | 0, p, q, hn, ho => by
    have := lenN_le hs
    simp only [List.length_append] at hn; omega
  | n + 1, [], q, hn, ho => by
    have h1 := lenN_app q hs
    unfold One at ho
    rw [List.nil_append] at ho
    rw [h1] at ho
    have : q = [] := List.length_eq_zero_iff.1 (by simp only [Option.some.injEq, List.length_append] at ho; omega)
    subst this
    simpa using h
  | n + 1, c :: p, q, hn, ho => by
    obtain ⟨c', r, a, h1, h2, h3⟩ := one_cons ho
    rw [List.cons_append] at h1
    rw [List.cons_append, List.cons_append]
    cases h1
    obtain ⟨k1, k2, k3⟩ := pcs_row h3
    obtain ⟨us, x, vs, p', q', e1, e2, e3, e4⟩ := in_piece hs k1 k2
    have hx : One g x := k1 x (by rw [e1]; simp)
    subst e2
    have hlen : (p' ++ (s ++ q')).length ≤ n := by
      subst e3 e4
      simp at hn ⊢; omega
    have ih := more_in hs ht h n hlen hx
    have hcov : covB (c :: (p ++ (s ++ q))) (c :: (p ++ (t ++ q))) = true := count_cov fun d hd => by
      have := count_in p s t q d (cov_count (more_cov h).1 (one_24 ht) d hd)
      rw [List.count_cons, List.count_cons]; omega
    have hsum := (more_cov h).2
    have hS : sumW g (c :: (p ++ (s ++ q))) = codeW g c + (sumW g p + (sumW g s + sumW g q)) := by simp [sumW, sumW_app]
    have hT : sumW g (c :: (p ++ (t ++ q))) = codeW g c + (sumW g p + (sumW g t + sumW g q)) := by simp [sumW, sumW_app]
    by_cases hlt : sumW g t < sumW g s
    · exact .sum hcov (by omega)
    · refine .arg hcov (by omega) (by simp [gi]) ?_ ih
      rw [List.tail_cons, List.tail_cons, e1]
      have hx2 : One g (p' ++ (t ++ q')) := by
        obtain ⟨m, _, _, h5⟩ := repl_lenN hs ht hx (by have := lenN_le hs; simp; omega)
        unfold One; rw [h5]; simp; omega
      have e5 : p ++ (t ++ q) = (us ++ (p' ++ (t ++ q')) :: vs).flatten := by
        rw [e3, e4]; simp
      rw [e5, pcs_flat (fun y hy => ?_)]
      · exact unl_at us vs vs (fun e => more_irr (e ▸ ih))
      · rcases List.mem_append.1 hy with hy | hy
        · exact k1 y (by rw [e1]; simp [hy])
        · rcases List.mem_cons.1 hy with rfl | hy
          · exact hx2
          · exact k1 y (by rw [e1]; simp [hy])
end Go.Qu

/- Binds: what they make of rows; two lists of binds as one. Plain lists, no program in sight; no condition. -/
set_option linter.unusedVariables false
set_option linter.unusedSimpArgs false
namespace Go.Qu
open Go Go.Ab
structure Bd where
  v : Int
  r : Row
def Bd.d (b : Bd) : D := .agg [.int .i64 b.v, .sl 1 b.r.z (ints b.r.l) b.r.e]
def bds (l : List Bd) : List D := l.map Bd.d
abbrev iBd (z : Bool) (l : List Bd) (e : List D) : IV := .d (.sl 2 z (bds l) e)
theorem bds_len (l : List Bd) : (bds l).length = l.length := by simp [bds]
theorem bds_nil : bds [] = [] := rfl
theorem bds_cons (x : Bd) (l : List Bd) : bds (x :: l) = .agg [.int .i64 x.v, .sl 1 x.r.z (ints x.r.l) x.r.e] :: bds l := rfl
theorem bds_append (l m : List Bd) : bds (l ++ m) = bds l ++ bds m := by simp [bds]
theorem bds_at {l : List Bd} {i : Nat} {s : Bd} (h : l[i]? = some s) : (bds l)[i]? = some (.agg [.int .i64 s.v, .sl 1 s.r.z (ints s.r.l) s.r.e]) := by simp [bds, h, Bd.d]
/-- Rows of which only those without codes are nil. -/
def NilOk (s : List Bd) : Prop := ∀ b ∈ s, b.r.z = true → b.r.l = []
/-! ### What may be -/
def oneB (g : List Sym) (t : List Int) : Bool := rowB g t && decide (termsN g t = 1)
def aloneB (t : List Int) (v : Int) : Bool := decide (t = [-1 - v])
def bindAt (g : List Sym) (s : List Bd) (i : Nat) : Bool := match s[i]? with
  | none => true
  | some b => decide (0 ≤ b.v) && (decide (b.v ≤ 23) && ((match s[i - 1]? with | some a => decide (i = 0) || decide (a.v < b.v) | none => true) && (oneB g b.r.l && !(aloneB b.r.l b.v))))
def bindB (g : List Sym) (s : List Bd) : Bool := sigB g && (List.range s.length).all (bindAt g s)
theorem bindB_at {g : List Sym} {s : List Bd} (h : bindB g s = true) {i : Nat} {b : Bd} (hb : s[i]? = some b) : (0 ≤ b.v ∧ b.v ≤ 23) ∧ (∀ a, 0 < i → s[i - 1]? = some a → a.v < b.v) ∧ oneB g b.r.l = true ∧ ¬ b.r.l = [-1 - b.v] := by
  simp only [bindB, Bool.and_eq_true, List.all_eq_true, List.mem_range] at h
  have h1 := h.2 i (lt_at hb)
  unfold bindAt at h1
  rw [hb] at h1
  simp only [Bool.and_eq_true, decide_eq_true_eq] at h1
  refine ⟨⟨h1.1, h1.2.1⟩, fun a hi ha => ?_, h1.2.2.2.1, ?_⟩
  · have h2 := h1.2.2.1
    rw [ha] at h2
    simp at h2
    omega
  · have h2 := h1.2.2.2.2
    simp [aloneB] at h2
    exact h2
theorem one_lenN {g : List Sym} {t : List Int} (h : oneB g t = true) : sigB g = true ∧ t.length ≤ 48 ∧ lenN g t 1 = some t.length := by
  simp only [oneB, Bool.and_eq_true, decide_eq_true_eq] at h
  obtain ⟨hg, hr, ts, hts, _⟩ := rowB_parts h.1
  have h2 := termsN_of hg hr hts
  have h3 := parts_all _ (Nat.le_refl _) hts
  rw [← h2, h.2] at h3
  exact ⟨hg, hr, h3⟩
theorem one_of {g : List Sym} {t : List Int} (hg : sigB g = true) (hr : t.length ≤ 48) (h : lenN g t 1 = some t.length) : oneB g t = true := by
  have h1 := parts_one h
  rw [List.take_length] at h1
  simp [oneB, rowB_of hg hr h1, termsN_of hg hr h1]
/-! ### What stands for a variable -/
def findB : List Bd → Int → Row
  | [], _ => ⟨true, [], []⟩
  | b :: s, v => if b.v = v then b.r else findB s v
theorem findB_some {s : List Bd} {v : Int} {j : Nat} {b : Bd} (hb : s[j]? = some b) (hv : b.v = v) (hk : ∀ k, k < j → ∀ c, s[k]? = some c → c.v ≠ v) : findB s v = b.r := by
  induction s generalizing j with
  | nil => simp at hb
  | cons a s ih =>
    cases j with
    | zero => simp at hb; subst hb; simp [findB, hv]
    | succ j =>
      have h0 := hk 0 (by omega) a (by simp)
      rw [findB, if_neg h0]
      exact ih (j := j) (by simpa using hb) (fun k hk2 c hc => hk (k + 1) (by omega) c (by simpa using hc))
theorem findB_none {s : List Bd} {v : Int} (hk : ∀ k, k < s.length → ∀ c, s[k]? = some c → c.v ≠ v) : findB s v = ⟨true, [], []⟩ := by
  induction s with
  | nil => rfl
  | cons a s ih =>
    have h0 := hk 0 (by simp) a (by simp)
    rw [findB, if_neg h0]
    exact ih (fun k hk2 c hc => hk (k + 1) (by simp; omega) c (by simpa using hc))
/-- A variable has a bind, a term of its own, or none. -/
theorem find_cases (s : List Bd) (v : Int) : findB s v = ⟨true, [], []⟩ ∨ ∃ b ∈ s, b.v = v ∧ findB s v = b.r := by
  induction s with
  | nil => exact Or.inl rfl
  | cons a s ih =>
    rw [findB]
    split
    · rename_i h; exact Or.inr ⟨a, by simp, h, rfl⟩
    · rcases ih with h | ⟨b, h1, h2, h3⟩
      · exact Or.inl h
      · exact Or.inr ⟨b, by simp [h1], h2, h3⟩
def onC (s : List Bd) (c : Int) : List Int := if 0 ≤ c then [c] else if (findB s (-1 - c)).z = true then [c] else (findB s (-1 - c)).l
def onB (s : List Bd) : List Int → List Int
  | [] => []
  | c :: r => onC s c ++ onB s r
theorem onB_app (s : List Bd) : ∀ (a b : List Int), onB s (a ++ b) = onB s a ++ onB s b
  | [], b => rfl
  | c :: a, b => by rw [List.cons_append, onB, onB, onB_app s a b, List.append_assoc]
theorem onB_one (s : List Bd) (c : Int) : onB s [c] = onC s c := by simp [onB]
/-- Of binds that may be: a term, or nothing. -/
theorem find_ok {g : List Sym} {s : List Bd} (hs : bindB g s = true) (hn : NilOk s) (v : Int) : ((findB s v).z = true ∧ (findB s v).l = []) ∨ ((findB s v).z = false ∧ oneB g (findB s v).l = true ∧ ¬ (findB s v).l = [-1 - v] ∧ 0 ≤ v ∧ v ≤ 23) := by
  rcases find_cases s v with h | ⟨b, h1, h2, h3⟩
  · rw [h]; exact Or.inl ⟨rfl, rfl⟩
  · obtain ⟨i, hi⟩ := List.getElem?_of_mem h1
    obtain ⟨h4, _, h5, h6⟩ := bindB_at hs hi
    have h7 := one_lenN h5
    have h8 : b.r.z = false := by
      cases hz : b.r.z with
      | false => rfl
      | true =>
        have := hn b h1 hz
        rw [this] at h7; simp [lenN] at h7
    rw [h3, ← h2]
    exact Or.inr ⟨h8, h5, h6, h4⟩
theorem onC_len {g : List Sym} {s : List Bd} (hs : bindB g s = true) (hn : NilOk s) (c : Int) : 1 ≤ (onC s c).length ∧ (onC s c).length ≤ 48 := by
  unfold onC
  split
  · simp
  · rcases find_ok hs hn (-1 - c) with ⟨h1, _⟩ | ⟨h1, h2, _⟩
    · rw [if_pos h1]; simp
    · rw [if_neg (by simp [h1])]
      have h3 := one_lenN h2
      have := lenN_le h3.2.2
      omega
theorem onB_len {g : List Sym} {s : List Bd} (hs : bindB g s = true) (hn : NilOk s) : ∀ (r : List Int), r.length ≤ (onB s r).length ∧ (onB s r).length ≤ 48 * r.length
  | [] => by simp [onB]
  | c :: r => by
    have h1 := onC_len hs hn c
    have h2 := onB_len hs hn r
    simp only [onB, List.length_append, List.length_cons]; omega
/-- Terms whose variables are replaced are terms. -/
theorem on_lenN {g : List Sym} {s : List Bd} (hs : bindB g s = true) (hn : NilOk s) : ∀ {r : List Int} {n k : Nat}, lenN g r n = some k → lenN g (onB s (r.take k)) n = some (onB s (r.take k)).length
  | r, 0, k, h => by
    have e : k = 0 := by cases r <;> simp [lenN] at h <;> omega
    subst e
    simp [onB, lenN]
  | [], n + 1, k, h => by simp [lenN] at h
  | c :: r, n + 1, k, h => by
    obtain ⟨a, m, ha, hm, rfl⟩ := lenN_some h
    have ih := on_lenN hs hn hm
    rw [List.take_succ_cons, onB]
    by_cases h0 : 0 ≤ c
    · rw [onC, if_pos h0, List.singleton_append, lenN_cons ha, ih]; rfl
    · have ha0 : a = 0 := by
        unfold arOf at ha; rw [if_pos (by omega)] at ha; split at ha <;> simp at ha; exact ha.symm
      subst ha0
      rw [Nat.add_zero] at ih
      rw [onC, if_neg h0]
      rcases find_ok hs hn (-1 - c) with ⟨h1, _⟩ | ⟨h1, h2, _⟩
      · rw [if_pos h1, List.singleton_append, lenN_cons ha, Nat.add_zero, ih]; rfl
      · rw [if_neg (by simp [h1])]
        have h3 := (one_lenN h2).2.2
        have h4 := lenN_split (g := g) n (lenN_app (onB s (r.take m)) h3)
        rw [List.drop_left, ih] at h4
        rw [Nat.add_comm n 1, h4]
        simp
theorem on_row {g : List Sym} {s : List Bd} (hs : bindB g s = true) (hn : NilOk s) {r : List Int} (hr : rowB g r = true) (hl : (onB s r).length ≤ 48) : rowB g (onB s r) = true ∧ termsN g (onB s r) = termsN g r := by
  obtain ⟨hg, h1, ts, hts, _⟩ := rowB_parts hr
  have h2 := parts_all _ (Nat.le_refl _) hts
  have h3 := on_lenN hs hn h2
  rw [List.take_length] at h3
  obtain ⟨us, h4, h5⟩ := parts_lenN h3
  rw [List.take_length] at h4
  exact ⟨rowB_of hg hl h4, by rw [termsN_of hg hl h4, termsN_of hg h1 hts, h5]⟩
/-! ### One after the other -/
/-- What stands for a variable after both. -/
def thenT (s u : List Bd) (v : Int) : List Int := if (findB s v).z = true then (findB u v).l else onB u (findB s v).l
def thenF (s u : List Bd) : Nat → Nat → Option (List Bd)
  | 0, _ => some []
  | k + 1, v => if (thenT s u v).length > 48 then none else (thenF s u k (v + 1)).map fun l => if thenT s u v = [] ∨ thenT s u v = [-1 - (v : Int)] then l else ⟨v, ⟨false, thenT s u v, []⟩⟩ :: l
def thenM (s u : List Bd) : Option (List Bd) := thenF s u 24 0
theorem then_spec {s u : List Bd} : ∀ {k v : Nat} {t : List Bd}, thenF s u k v = some t → (∀ b ∈ t, ∃ n : Nat, b.v = (n : Int) ∧ v ≤ n ∧ n < v + k ∧ b.r = ⟨false, thenT s u n, []⟩ ∧ thenT s u n ≠ [] ∧ thenT s u n ≠ [-1 - (n : Int)] ∧ (thenT s u n).length ≤ 48) ∧ (∀ n : Nat, v ≤ n → n < v + k → findB t n = if thenT s u n = [] ∨ thenT s u n = [-1 - (n : Int)] then ⟨true, [], []⟩ else ⟨false, thenT s u n, []⟩) ∧ (∀ i a b, s.length = s.length → t[i]? = some a → t[i + 1]? = some b → a.v < b.v)
  | 0, v, t, h => by
    simp [thenF] at h
    subst h
    exact ⟨by simp, fun n h1 h2 => by omega, by simp⟩
  | k + 1, v, t, h => by
    rw [thenF] at h
    split at h
    · cases h
    · rename_i hl
      obtain ⟨l, h1, rfl⟩ := Option.map_eq_some_iff.1 h
      obtain ⟨i1, i2, i3⟩ := then_spec h1
      split
      · rename_i hc
        refine ⟨fun b hb => ?_, fun n h1 h2 => ?_, i3⟩
        · obtain ⟨n, a1, a2, a3, a4⟩ := i1 b hb
          exact ⟨n, a1, by omega, by omega, a4⟩
        · by_cases hn : n = v
          · subst hn
            rw [if_pos hc]
            have : ∀ k, k < l.length → ∀ c, l[k]? = some c → c.v ≠ (n : Int) := fun k hk c hc' => by
              obtain ⟨m, a1, a2, _⟩ := i1 c (List.mem_of_getElem? hc')
              omega
            exact findB_none this
          · exact i2 n (by omega) (by omega)
      · rename_i hc
        refine ⟨fun b hb => ?_, fun n h1 h2 => ?_, fun i a b h0 ha hb => ?_⟩
        · rcases List.mem_cons.1 hb with rfl | hb
          · exact ⟨v, rfl, Nat.le_refl _, by omega, rfl, fun e => hc (Or.inl e), fun e => hc (Or.inr e), by omega⟩
          · obtain ⟨n, a1, a2, a3, a4⟩ := i1 b hb
            exact ⟨n, a1, by omega, by omega, a4⟩
        · by_cases hn : n = v
          · subst hn
            rw [if_neg hc, findB, if_pos rfl]
          · rw [findB, if_neg (by dsimp only; omega)]
            exact i2 n (by omega) (by omega)
        · cases i with
          | zero =>
            simp at ha hb
            subst ha
            obtain ⟨n, a1, a2, _⟩ := i1 b (List.mem_of_getElem? hb)
            dsimp only; omega
          | succ i => exact i3 i a b h0 (by simpa using ha) (by simpa using hb)
theorem thenT_one {g : List Sym} {s u : List Bd} (hs : bindB g s = true) (hn : NilOk s) (hu : bindB g u = true) (hm : NilOk u) (v : Int) (hl : (thenT s u v).length ≤ 48) (h0 : thenT s u v ≠ []) : oneB g (thenT s u v) = true := by
  unfold thenT at hl h0 ⊢
  rcases find_ok hs hn v with ⟨h1, _⟩ | ⟨h1, h2, _⟩
  · rw [if_pos h1] at hl h0 ⊢
    rcases find_ok hu hm v with ⟨_, h3⟩ | ⟨_, h3, _⟩
    · exact absurd h3 h0
    · exact h3
  · rw [if_neg (by simp [h1])] at hl h0 ⊢
    obtain ⟨hg, _, h3⟩ := one_lenN h2
    have h4 := on_lenN hu hm h3
    rw [List.take_length] at h4
    exact one_of hg hl h4
theorem then_may {g : List Sym} {s u t : List Bd} (hs : bindB g s = true) (hn : NilOk s) (hu : bindB g u = true) (hm : NilOk u) (ht : thenM s u = some t) : bindB g t = true ∧ NilOk t := by
  obtain ⟨h1, h2, h3⟩ := then_spec ht
  have hg : sigB g = true := by simp only [bindB, Bool.and_eq_true] at hs; exact hs.1
  refine ⟨?_, fun b hb hz => ?_⟩
  · simp only [bindB, hg, Bool.true_and, List.all_eq_true, List.mem_range]
    intro i hi
    obtain ⟨b, hb⟩ := at_lt hi
    obtain ⟨n, a1, a2, a3, a4, a5, a6, a7⟩ := h1 b (List.mem_of_getElem? hb)
    have h6 := thenT_one hs hn hu hm (n : Int) a7 a5
    unfold bindAt
    rw [hb]
    simp only [Bool.and_eq_true, decide_eq_true_eq]
    refine ⟨by omega, by omega, ?_, by rw [a4]; exact h6, ?_⟩
    · split
      · rename_i a ha
        cases i with
        | zero => simp
        | succ i =>
          have := h3 i a b rfl (by simpa using ha) hb
          simp [this]
      · rfl
    · rw [a4, a1]; simp [aloneB, a6]
  · obtain ⟨n, _, _, _, a4, _⟩ := h1 b hb
    rw [a4] at hz; cases hz
/-- Both at once do as one after the other. -/
theorem then_on {g : List Sym} {s u t : List Bd} (hs : bindB g s = true) (hn : NilOk s) (hu : bindB g u = true) (hm : NilOk u) (ht : thenM s u = some t) : ∀ {r : List Int}, (∀ c ∈ r, -24 ≤ c) → onB t r = onB u (onB s r)
  | [], h => rfl
  | c :: r, h => by
    have ih := then_on hs hn hu hm ht (r := r) (fun x hx => h x (by simp [hx]))
    rw [onB, onB, onB_app, ih]
    congr 1
    have hc := h c (by simp)
    by_cases h0 : 0 ≤ c
    · rw [onC, if_pos h0, onC, if_pos h0, onB_one, onC, if_pos h0]
    · obtain ⟨n, hn2⟩ : ∃ n : Nat, (-1 - c) = (n : Int) := ⟨(-1 - c).toNat, by omega⟩
      have h2 := (then_spec ht).2.1 n (Nat.zero_le _) (by omega)
      have hcn : c = -1 - (n : Int) := by omega
      rw [onC, if_neg h0, hn2, h2, onC, if_neg h0, hn2]
      have hT : thenT s u n = if (findB s n).z = true then (findB u n).l else onB u (findB s n).l := rfl
      rcases find_ok hs hn n with ⟨a1, a2⟩ | ⟨a1, a2, a3⟩
      · rw [if_pos a1] at hT
        rw [if_pos a1, onB_one, onC, if_neg h0, hn2]
        rcases find_ok hu hm n with ⟨b1, b2⟩ | ⟨b1, b2, b3, _⟩
        · rw [if_pos (Or.inl (by rw [hT, b2])), if_pos rfl, if_pos b1]
        · have b4 : (findB u n).l ≠ [] := by
            intro e; have := (one_lenN b2).2.2; rw [e] at this; simp [lenN] at this
          have hne : ¬ (thenT s u n = [] ∨ thenT s u n = [-1 - (n : Int)]) := by rw [hT]; rintro (e | e); exact b4 e; exact b3 e
          rw [if_neg hne, if_neg (by simp), if_neg (by simp [b1]), hT]
      · have a0 : ¬ (findB s n).z = true := by simp [a1]
        rw [if_neg a0] at hT
        rw [if_neg a0, ← hT]
        have a4 : onB u (findB s n).l ≠ [] := by
          intro e
          have h5 := (onB_len hu hm (findB s n).l).1
          have h6 := (one_lenN a2).2.2
          have := lenN_le h6
          rw [e] at h5; simp at h5; rw [h5] at this; simp at this
        by_cases h7 : thenT s u n = [-1 - (n : Int)]
        · rw [if_pos (Or.inr h7), if_pos rfl, h7, hcn]
        · have hne : ¬ (thenT s u n = [] ∨ thenT s u n = [-1 - (n : Int)]) := by rintro (e | e); exact a4 (hT ▸ e); exact h7 e
          rw [if_neg hne, if_neg (by simp)]
end Go.Qu

/- A row that is rewritten: what it becomes. Plain lists; no condition. -/
set_option linter.unusedVariables false
set_option linter.unusedSimpArgs false
namespace Go.Qu
open Go Go.Ab
/-- What stands for variables, as a list, without those that stay. -/
def listF (u : Bs) : Nat → Nat → List Bd
  | 0, _ => []
  | k + 1, v => (match u v with | none => [] | some t => if t = [-1 - (v : Int)] then [] else [⟨v, ⟨false, t, []⟩⟩]) ++ listF u k (v + 1)
theorem find_listF (u : Bs) : ∀ (k v w : Nat), findB (listF u k v) (w : Int) = if v ≤ w ∧ w < v + k then (match u w with | none => ⟨true, [], []⟩ | some t => if t = [-1 - (w : Int)] then ⟨true, [], []⟩ else ⟨false, t, []⟩) else ⟨true, [], []⟩
  | 0, v, w => by
    rw [if_neg (by omega)]; rfl
  | k + 1, v, w => by
    have ih := find_listF u k (v + 1) w
    rw [listF]
    by_cases hv : v = w
    · subst hv
      rw [if_pos (by omega)]
      rw [if_neg (by omega)] at ih
      cases hu : u v with
      | none => simpa [hu] using ih
      | some t =>
        dsimp only
        by_cases ht : t = [-1 - (v : Int)]
        · rw [if_pos ht, if_pos ht]; simpa using ih
        · rw [if_neg ht, if_neg ht]; simp [findB]
    · have h1 : (v ≤ w ∧ w < v + (k + 1)) ↔ (v + 1 ≤ w ∧ w < v + 1 + k) := by omega
      simp only [h1]
      rw [← ih]
      cases hu : u v with
      | none => rfl
      | some t =>
        dsimp only
        by_cases ht : t = [-1 - (v : Int)]
        · rw [if_pos ht]; rfl
        · rw [if_neg ht]
          have hne : ¬ (v : Int) = (w : Int) := by omega
          simp [findB, hne]
theorem on_list {u : Bs} : ∀ {r : List Int}, (∀ c ∈ r, -24 ≤ c) → (∀ c ∈ r, c < 0 → (u (vN c)).isSome = true) → onB (listF u 24 0) r = app (defS u) r
  | [], _, _ => rfl
  | c :: r, h, h' => by
    have ih := on_list (u := u) (r := r) (fun x hx => h x (by simp [hx])) (fun x hx => h' x (by simp [hx]))
    rw [onB, ih, app_cons]
    congr 1
    unfold onC appC
    by_cases hc : 0 ≤ c
    · rw [if_pos hc, if_pos hc]
    · rw [if_neg hc, if_neg hc]
      have h24 := h c (by simp)
      have hs := h' c (by simp) (by omega)
      have e : (-1 - c) = ((vN c : Nat) : Int) := by unfold vN; omega
      have hlt : 0 ≤ vN c ∧ vN c < 0 + 24 := by unfold vN; omega
      have hf := find_listF u 24 0 (vN c)
      rw [if_pos hlt] at hf
      rw [e, hf]
      cases hu : u (vN c) with
      | none => rw [hu] at hs; cases hs
      | some t =>
        have e2 : (-1 - ((vN c : Nat) : Int)) = c := by unfold vN; omega
        dsimp only
        rw [e2]
        by_cases ht : t = [c]
        · simp [defS, hu, ht]
        · simp [defS, hu, ht]
/-- What the row becomes where the rewrite's left side stands at a place. -/
def hitF (g : List Sym) (L R out : List Int) (i : Nat) : Option (List Int) := match lenN g (out.drop i) 1 with
  | none => none
  | some k => match growF g (fun _ => none) L ((out.drop i).take k) with
    | none => none
    | some u => some (out.take i ++ (onB (listF u 24 0) R ++ out.drop (i + k)))
/-- The row, how often, and at which place: what it becomes. -/
def rwX (g : List Sym) (L R : List Int) (x : List Int × Nat × Nat) : Option (List Int × Nat) :=
  if h : x.2.2 < x.1.length ∧ x.1.length ≤ 48 ∧ x.2.1 ≤ 100 then match hitF g L R x.1 x.2.2 with
    | none => rwX g L R (x.1, x.2.1, x.2.2 + 1)
    | some o => if ht : x.2.1 = 100 then none else if hl : 48 < o.length then none else rwX g L R (o, x.2.1 + 1, 0)
  else some (x.1, x.2.1)
termination_by (100 - x.2.1) * 50 + (x.1.length - x.2.2)
decreasing_by
  · omega
  · omega
theorem rwX_end {g : List Sym} {L R out : List Int} {t i : Nat} (h : ¬ i < out.length) : rwX g L R (out, t, i) = some (out, t) := by
  rw [rwX, dif_neg (fun e => h e.1)]
theorem rwX_no {g : List Sym} {L R out : List Int} {t i : Nat} (h : i < out.length) (h1 : out.length ≤ 48) (h2 : t ≤ 100) (hh : hitF g L R out i = none) : rwX g L R (out, t, i) = rwX g L R (out, t, i + 1) := by
  rw [rwX, dif_pos ⟨h, h1, h2⟩]
  dsimp only
  rw [hh]
theorem rwX_yes {g : List Sym} {L R out o : List Int} {t i : Nat} (h : i < out.length) (h1 : out.length ≤ 48) (h2 : t ≤ 100) (hh : hitF g L R out i = some o) : rwX g L R (out, t, i) = if t = 100 then none else if 48 < o.length then none else rwX g L R (o, t + 1, 0) := by
  rw [rwX, dif_pos ⟨h, h1, h2⟩]
  dsimp only
  rw [hh]
  dsimp only
  split
  · rfl
  · split <;> rfl
theorem list_u {g : List Sym} {L t : List Int} {u : Bs} (h : growF g (fun _ => none) L t = some u) : (∀ c ∈ L, c < 0 → (u (vN c)).isSome = true) ∧ (defS u).Ok g ∧ app (defS u) L = t := by
  obtain ⟨h1, h2, h3, h4⟩ := grow_sound h
  refine ⟨h2, fun v => ?_, h4 _ fun v t e => by unfold defS; rw [e]⟩
  unfold defS
  split
  · rename_i t e
    rcases h3 v t e with h5 | h5
    · cases h5
    · exact h5
  · split
    · exact lenN_one (by omega) (by omega)
    · exact lenN_one (by omega) (by omega)
/-- A step: a term goes, and one that is less comes. -/
theorem hit_step {g : List Sym} (hg : SigOk g) {L R : List Int} (hL : One g L) (hR : One g R) (hm : More g L R) {out o : List Int} {i : Nat} (h : hitF g L R out i = some o) :
    ∃ p s t q, out = p ++ (s ++ q) ∧ o = p ++ (t ++ q) ∧ One g s ∧ One g t ∧ More g s t ∧ p.length = i ∧ i ≤ out.length := by
  unfold hitF at h
  split at h
  · cases h
  · rename_i k hk
    split at h
    · cases h
    · rename_i u hu
      simp only [Option.some.injEq] at h
      obtain ⟨h1, h2, h3⟩ := list_u hu
      have hle := lenN_le hk
      simp only [List.length_drop] at hle
      have hcv := cov_count (more_cov hm).1 (one_24 hR)
      rw [on_list (one_24 hR) (fun c hc h0 => h1 c (List.count_pos_iff.1 (Nat.lt_of_lt_of_le (List.count_pos_iff.2 hc) (hcv c h0))) h0)] at h
      refine ⟨out.take i, (out.drop i).take k, app (defS u) R, out.drop (i + k), ?_, h.symm, ?_, app_lenN h2 hR, ?_, by simp; omega, by omega⟩
      · rw [← List.drop_drop, List.take_append_drop, List.take_append_drop]
      · have := lenN_take hk
        unfold One; rw [this]; simp; omega
      · rw [← h3]; exact more_app hg h2 hm hL hR
theorem rw_all {g : List Sym} (hg : SigOk g) {L R : List Int} (hL : One g L) (hR : One g R) (hm : More g L R) {n : Nat} : ∀ (x : List Int × Nat × Nat), x.1.length ≤ 48 → x.2.1 ≤ 100 → lenN g x.1 n = some x.1.length → (∀ j, j < x.2.2 → j < x.1.length → hitF g L R x.1 j = none) → ∀ {y : List Int} {k : Nat}, rwX g L R x = some (y, k) →
    lenN g y n = some y.length ∧ y.length ≤ 48 ∧ (∀ j, j < y.length → hitF g L R y j = none) ∧ x.2.1 ≤ k ∧ k ≤ 100 ∧ sumW g y ≤ sumW g x.1 ∧ (k = x.2.1 → y = x.1) ∧ (n = 1 → x.2.1 < k → More g x.1 y) := by
  intro x
  induction x using rwX.induct (g := g) (L := L) (R := R) with
  | case1 x h hh ih =>
    intro h1 h2 h3 h4 y k hy
    rw [rwX_no h.1 h.2.1 h.2.2 hh] at hy
    exact ih h1 h2 h3 (fun j hj hj2 => by
      by_cases e : j = x.2.2
      · subst e; exact hh
      · exact h4 j (by dsimp only at hj; omega) hj2) hy
  | case2 x h o hh ht =>
    intro h1 h2 h3 h4 y k hy
    rw [rwX_yes h.1 h.2.1 h.2.2 hh, if_pos ht] at hy
    cases hy
  | case3 x h o hh ht hl =>
    intro h1 h2 h3 h4 y k hy
    rw [rwX_yes h.1 h.2.1 h.2.2 hh, if_neg ht, if_pos hl] at hy
    cases hy
  | case4 x h o hh ht hl ih =>
    intro h1 h2 h3 h4 y k hy
    rw [rwX_yes h.1 h.2.1 h.2.2 hh, if_neg ht, if_neg hl] at hy
    obtain ⟨p, s, t, q, e1, e2, hs, ho, hst, hp, _⟩ := hit_step hg hL hR hm hh
    have hs1 := lenN_le hs
    have hx : lenN g o n = some o.length := by
      rw [e1] at h3
      obtain ⟨m, _, _, h5⟩ := repl_lenN hs ho h3 (by simp; omega)
      rw [e2, h5]; simp; omega
    have hsum : sumW g o ≤ sumW g x.1 := by
      have := (more_cov hst).2
      rw [e1, e2]; simp only [sumW_app]; omega
    obtain ⟨k1, k2, k3, k4, k5, k6, k7, k8⟩ := ih (by dsimp only; omega) (by dsimp only; omega) hx (fun j hj => by dsimp only at hj; omega) hy
    dsimp only at k4 k5 k6 k7 k8
    refine ⟨k1, k2, k3, by omega, k5, by omega, fun e => by exfalso; have e' : k = x.2.1 := e; omega, fun hn hk => ?_⟩
    subst hn
    have hstep : More g x.1 o := by
      rw [e1] at h3 ⊢
      rw [e2]
      exact more_in hs ho hst _ (Nat.le_refl _) h3
    by_cases e : k = x.2.1 + 1
    · rw [k7 e]; exact hstep
    · exact more_trans hstep (k8 rfl (by omega))
  | case5 x h =>
    intro h1 h2 h3 h4 y k hy
    have hi : ¬ x.2.2 < x.1.length := fun e => h ⟨e, h1, h2⟩
    rw [rwX_end hi] at hy
    cases hy
    exact ⟨h3, h1, fun j hj => h4 j (by omega) hj, Nat.le_refl _, h2, by omega, fun _ => rfl, fun _ hk => absurd hk (Nat.lt_irrefl _)⟩
/-- Where it stands nowhere, nothing is done. -/
theorem rw_same {g : List Sym} {L R : List Int} : ∀ (x : List Int × Nat × Nat), x.1.length ≤ 48 → x.2.1 ≤ 100 → (∀ j, j < x.1.length → hitF g L R x.1 j = none) → rwX g L R x = some (x.1, x.2.1) := by
  intro x
  induction x using rwX.induct (g := g) (L := L) (R := R) with
  | case1 x h hh ih =>
    intro h1 h2 h3
    rw [rwX_no h.1 h.2.1 h.2.2 hh]
    exact ih h1 h2 h3
  | case2 x h o hh ht =>
    intro h1 h2 h3
    rw [h3 _ h.1] at hh; cases hh
  | case3 x h o hh ht hl =>
    intro h1 h2 h3
    rw [h3 _ h.1] at hh; cases hh
  | case4 x h o hh ht hl ih =>
    intro h1 h2 h3
    rw [h3 _ h.1] at hh; cases hh
  | case5 x h =>
    intro h1 h2 h3
    have hi : ¬ x.2.2 < x.1.length := fun e => h ⟨e, h1, h2⟩
    rw [rwX_end hi]
theorem hit_row {g : List Sym} (hg : SigOk g) {L R : List Int} (hL : One g L) (hR : One g R) (hsub : ∀ c ∈ R, c < 0 → c ∈ L) {out o : List Int} {i : Nat} (h : hitF g L R out i = some o) :
    ∃ p s t q, out = p ++ (s ++ q) ∧ o = p ++ (t ++ q) ∧ One g s ∧ One g t ∧ p.length = i := by
  unfold hitF at h
  split at h
  · cases h
  · rename_i k hk
    split at h
    · cases h
    · rename_i u hu
      simp only [Option.some.injEq] at h
      obtain ⟨h1, h2, h3⟩ := list_u hu
      have hle := lenN_le hk
      simp only [List.length_drop] at hle
      rw [on_list (one_24 hR) (fun c hc h0 => h1 c (hsub c hc h0) h0)] at h
      refine ⟨out.take i, (out.drop i).take k, app (defS u) R, out.drop (i + k), ?_, h.symm, ?_, app_lenN h2 hR, by simp; omega⟩
      · rw [← List.drop_drop, List.take_append_drop, List.take_append_drop]
      · have := lenN_take hk
        unfold One; rw [this]; simp; omega
theorem more_sub {g : List Sym} {L R : List Int} (hR : One g R) (hm : More g L R) : ∀ c ∈ R, c < 0 → c ∈ L := fun c hc h0 =>
  List.count_pos_iff.1 (Nat.lt_of_lt_of_le (List.count_pos_iff.2 hc) (cov_count (more_cov hm).1 (one_24 hR) c h0))
theorem grow_len {g : List Sym} : ∀ {a b : List Int} {s u : Bs}, growF g s a b = some u → ∀ v t, u v = some t → s v = some t ∨ t.length ≤ b.length
  | [], b, s, u, h => by
    rw [growF] at h
    split at h
    · cases h; exact fun v t e => .inl e
    · cases h
  | c :: a, b, s, u, h => by
    rw [growF] at h
    split at h
    · cases h
    split at h
    · split at h
      · intro v t e
        rcases grow_len h v t e with h1 | h1
        · exact .inl h1
        · exact .inr (Nat.le_trans h1 (by simp))
      · cases h
    · split at h
      · cases h
      · rename_i k hk
        split at h
        · intro v t e
          rcases grow_len h v t e with h1 | h1
          · unfold Bs.upd at h1
            split at h1
            · cases h1; exact .inr (by simp [Nat.min_le_right])
            · exact .inl h1
          · exact .inr (Nat.le_trans h1 (by simp))
        · split at h
          · intro v t e
            rcases grow_len h v t e with h1 | h1
            · exact .inl h1
            · exact .inr (Nat.le_trans h1 (by simp))
          · cases h
theorem list_le {u : Bs} {n : Nat} (hu : ∀ v t, u v = some t → t.length ≤ n) (v : Int) : (findB (listF u 24 0) v).l.length ≤ n := by
  have key : ∀ (k j : Nat), (findB (listF u k j) v).l.length ≤ n := by
    intro k
    induction k with
    | zero => intro j; simp [listF, findB]
    | succ k ih =>
      intro j
      rw [listF]
      cases hj : u j with
      | none => exact ih (j + 1)
      | some t =>
        dsimp only
        split
        · exact ih (j + 1)
        · rw [List.singleton_append, findB]
          split
          · exact hu j t hj
          · exact ih (j + 1)
  exact key 24 0
theorem listF_len (u : Bs) : ∀ (k j : Nat), (listF u k j).length ≤ k
  | 0, j => by simp [listF]
  | k + 1, j => by
    have := listF_len u k (j + 1)
    rw [listF]
    cases u j with
    | none => simp; omega
    | some t => dsimp only; split <;> simp <;> omega
end Go.Qu

/- Which term is more: what the program's functions hand back. For every input; no condition. -/
set_option linter.unusedVariables false
set_option linter.unusedSimpArgs false
set_option maxRecDepth 100000
namespace Go.Proofs.YtollbcdhmnnjeaaDoor.Ab
open Go Go.Ab Go.Qu Go.Proofs
attribute [local simp] and_assoc
/-! ### How often each variable stands -/
def cnD (a : List Int) : List D := (List.range 24).map fun v => .int .i64 (occ a v)
theorem cnD_len (a : List Int) : (cnD a).length = 24 := by simp [cnD]
theorem cnD_at (a : List Int) {v : Nat} (hv : v < 24) : (cnD a)[v]? = some (.int .i64 (occ a v)) := by simp [cnD, hv]
theorem cnD_width (a : List Int) : D.width (.agg (cnD a)) = 24 := by
  rw [D.width, width_one _ (fun x hx => ?_), cnD_len]
  simp only [cnD, List.mem_map] at hx
  obtain ⟨v, _, rfl⟩ := hx
  simp [D.width]
theorem occ_app (a : List Int) (c : Int) (w : Nat) : occ (a ++ [c]) w = occ a w + if c = -1 - (w : Int) then 1 else 0 := by
  unfold occ
  rw [List.count_append, List.count_singleton]
  by_cases h : c = -1 - (w : Int)
  · simp [h]
  · simp [h]
theorem cnD_go (a : List Int) {c : Int} (h0 : c < 0) (h24 : -24 ≤ c) : (cnD a).set (vN c) (.int .i64 ((occ a (vN c) : Int) + 1)) = cnD (a ++ [c]) := by
  refine List.ext_getElem (by simp [cnD]) (fun i h1 h2 => ?_)
  have hi : i < 24 := by simpa [cnD] using h1
  rw [List.getElem_set]
  by_cases hvi : vN c = i
  · subst hvi
    have e : c = -1 - ((vN c : Nat) : Int) := by unfold vN; omega
    simp only [if_true, cnD, List.getElem_map, List.getElem_range, occ_app]
    rw [if_pos e]; simp
  · rw [if_neg hvi]
    have e : ¬ c = -1 - (i : Int) := fun e => hvi (by unfold vN; omega)
    simp only [cnD, List.getElem_map, List.getElem_range, occ_app]
    rw [if_neg e]; simp
theorem cnD_stay (a : List Int) {c : Int} (h0 : 0 ≤ c) : cnD (a ++ [c]) = cnD a := by
  unfold cnD
  refine List.map_congr_left fun v _ => ?_
  rw [occ_app, if_neg (by omega)]; simp
theorem occ_le (a : List Int) (v : Nat) : occ a v ≤ a.length := List.count_le_length
theorem l_often {a : List Int} (ha : Len a) (hc : ∀ c ∈ a, -24 ≤ c) (z : Bool) (e : List D) (i : Nat) (hi : i ≤ a.length) :
    evP F (Go.Ab.W F) (JW F d65 []) d65 [] [1,0,1] [(2, .dbox 98 0 (cnD (a.take i))), (5, iS z a e), (6, iI a.length), (7, iI i)] = some (.norm [(2, .dbox 98 0 (cnD a)), (5, iS z a e), (6, iI a.length), (7, iI a.length)]) :=
  blk_fun (F := F) (d := d65) (lk := []) (p := [1,0,1,0,0]) (p0 := [1,0,1]) (id := 0) (by kernel_rfl) (st := fun (i : Nat) => [(2, .dbox 98 0 (cnD (a.take i))), (5, iS z a e), (6, iI a.length), (7, iI i)]) (I := fun i => i ≤ a.length) (μ := fun i => a.length - i)
    (res := fun _ => .norm [(2, .dbox 98 0 (cnD a)), (5, iS z a e), (6, iI a.length), (7, iI a.length)])
    (fun i hx => by
      by_cases hi : i < a.length
      rotate_left
      · have e0 : i = a.length := by omega
        subst e0
        refine .stop (.exit 0 [(2, .dbox 98 0 (cnD (a.take a.length))), (5, iS z a e), (6, iI a.length), (7, iI a.length)]) (wpQ_way (q65_l0b _ _ (cnD (a.take a.length)) z (ints a) e a.length a.length _) (by simp)) rfl ?_
        rw [List.take_length]; rfl
      have hci := hc _ (gi_mem hi)
      have hi' : (i : Int) < a.length := by omega
      have hat := Go.Ab.ints_at hi
      have hlt := ha.lt
      have hw1 := wr1 hi (show a.length ≤ 9223372036854775807 by omega)
      have ht : a.take (i + 1) = a.take i ++ [gi a i] := by
        rw [List.take_add_one, gi_at hi]; rfl
      by_cases h0 : 0 ≤ gi a i
      · refine .go (i + 1) (wpQ_way (q65_l0b _ _ (cnD (a.take i)) z (ints a) e a.length i _) ?_) hi (by omega) rfl
        have hneg : ¬ gi a i < 0 := by omega
        rw [ht, cnD_stay _ h0]
        simp [-Bool.exists_bool, -getElem?_pos, -Int.natCast_add, hi', hat, hneg, hw1]
      · refine .go (i + 1) (wpQ_way (q65_l0b _ _ (cnD (a.take i)) z (ints a) e a.length i _) ?_) hi (by omega) rfl
        have hneg : gi a i < 0 := by omega
        have hn := w_number (gi a i)
        have hv1 : IntKind.wrap .i64 (-1 - gi a i) = (vN (gi a i) : Int) := by rw [wr _ (by omega) (by omega)]; unfold vN; omega
        rw [hv1] at hn
        have hv24 : vN (gi a i) < 24 := by unfold vN; omega
        have hset := cnD_go (a.take i) hneg hci
        have hoc := occ_le (a.take i) (vN (gi a i))
        rw [List.length_take] at hoc
        have hw2 : IntKind.wrap .i64 ((occ (a.take i) (vN (gi a i)) : Int) + 1) = (occ (a.take i) (vN (gi a i)) : Int) + 1 := wr _ (by omega) (by omega)
        rw [ht, ← hset]
        obtain ⟨v, hv⟩ : ∃ v, v = vN (gi a i) := ⟨_, rfl⟩
        rw [← hv] at hn hv24 hw2 ⊢
        have hvi : (v : Int) < 24 := by omega
        have hba := cnD_at (a.take i) hv24
        have hvle : v + 1 ≤ 24 := hv24
        have hv23 : (v : Int) ≤ 23 := by omega
        simp [-Bool.exists_bool, -getElem?_pos, -Int.natCast_add, hi', hat, hneg, hw1, hn, hvi, hv23, hba, hvle, cnD_len, D.cells, setR, hw2]) i hi
theorem w_often {a : List Int} (ha : Len a) (hc : ∀ c ∈ a, -24 ≤ c) (z : Bool) (e : List D) : C 65 [iS z a e] = some (.d (.agg (cnD a)), [iS z a e]) := by
  refine wfn (lk := []) rfl rfl (fnW_way (q65 _ _ z (ints a) e _) ?_)
  have h1 := l_often ha hc z e 0 (Nat.zero_le _)
  have h0 : cnD (a.take 0) = [.int .i64 0, .int .i64 0, .int .i64 0, .int .i64 0, .int .i64 0, .int .i64 0, .int .i64 0, .int .i64 0, .int .i64 0, .int .i64 0, .int .i64 0, .int .i64 0, .int .i64 0, .int .i64 0, .int .i64 0, .int .i64 0, .int .i64 0, .int .i64 0, .int .i64 0, .int .i64 0, .int .i64 0, .int .i64 0, .int .i64 0, .int .i64 0] := rfl
  rw [h0] at h1
  rw [ints_len]
  refine ⟨_, _, _, _, _, _, h1, ?_⟩
  have h2 := cnD_width a
  simp [cnD_len, h2, D.cells]
theorem l_covers (a b : List Int) (i : Nat) (hi : i ≤ 24) :
    ((∀ j, i ≤ j → j < 24 → decide (occ b j ≤ occ a j) = true) ∧ evP F (Go.Ab.W F) (JW F d49 []) d49 [] [1,1,0,1] [(5, .dbox 98 0 (cnD a)), (6, .dbox 98 0 (cnD b)), (12, iI i)] = some (.norm [(5, .dbox 98 0 (cnD a)), (6, .dbox 98 0 (cnD b)), (12, iI (24 : Nat))])) ∨
    ((∃ j, i ≤ j ∧ j < 24 ∧ decide (occ b j ≤ occ a j) = false) ∧ evP F (Go.Ab.W F) (JW F d49 []) d49 [] [1,1,0,1] [(5, .dbox 98 0 (cnD a)), (6, .dbox 98 0 (cnD b)), (12, iI i)] = some (.ret [(4, iB false)])) :=
  blk_all (F := F) (d := d49) (lk := []) (p := [1,1,0,1,0,0]) (p0 := [1,1,0,1]) (id := 0) (by kernel_rfl) (n := 24) (st := fun i => [(5, .dbox 98 0 (cnD a)), (6, .dbox 98 0 (cnD b)), (12, iI (i : Nat))]) (q := fun j => decide (occ b j ≤ occ a j)) (rt := [(4, iB false)]) (e := [(5, .dbox 98 0 (cnD a)), (6, .dbox 98 0 (cnD b)), (12, iI (24 : Nat))])
    (fun i hi hq => wpQ_way (q49_l0a _ _ (cnD a) (cnD b) i _) (by
      have h1 := cnD_at a hi
      have h2 := cnD_at b hi
      have h3 : (i : Int) < 24 := by omega
      have hq2 : occ b i ≤ occ a i := by simpa using hq
      have hq' : ¬ (occ a i < occ b i) := by omega
      have hw1 := wr1 hi (show 24 ≤ 9223372036854775807 by omega)
      simp [-Bool.exists_bool, -getElem?_pos, -Int.natCast_add, h1, h2, h3, hq', hq2, hw1]))
    (fun i hi hq => wpQ_way (q49_l0a _ _ (cnD a) (cnD b) i _) (by
      have h1 := cnD_at a hi
      have h2 := cnD_at b hi
      have h3 : (i : Int) < 24 := by omega
      have hq' : (occ a i < occ b i) := by simpa using hq
      simp [-Bool.exists_bool, -getElem?_pos, -Int.natCast_add, h1, h2, h3, hq']))
    (wpQ_way (q49_l0a _ _ (cnD a) (cnD b) 24 _) (by simp)) i hi
theorem w_covers {a b : List Int} (ha : Len a) (hb : Len b) (hc : ∀ c ∈ a, -24 ≤ c) (hd : ∀ c ∈ b, -24 ≤ c) (z z' : Bool) (e e' : List D) : C 49 [iS z a e, iS z' b e'] = some (iB (covB a b), [iS z a e, iS z' b e']) := by
  refine wfn (lk := []) rfl rfl (fnW_way (q49 _ _ z (ints a) e z' (ints b) e' _) ?_)
  refine ⟨_, _, w_often ha hc z e, _, _, w_often hb hd z' e', ?_⟩
  have e1 : (D.width (.agg (cnD a)) == 24) = true := by rw [cnD_width]; rfl
  have e2 : (D.width (.agg (cnD b)) == 24) = true := by rw [cnD_width]; rfl
  rw [e1, e2, condW_tt, condW_tt]
  have hca : D.cells (.agg (cnD a)) = cnD a := rfl
  have hcb : D.cells (.agg (cnD b)) = cnD b := rfl
  rw [hca, hcb]
  rcases l_covers a b 0 (Nat.zero_le _) with ⟨h1, h2⟩ | ⟨⟨j, _, h1, h3⟩, h2⟩
  · have : covB a b = true := by
      unfold covB
      rw [List.all_eq_true]
      exact fun v hv => h1 v (Nat.zero_le _) (List.mem_range.1 hv)
    rw [this]
    exact .inr ⟨_, _, _, h2, rfl⟩
  · have : covB a b = false := by
      cases h : covB a b with
      | false => rfl
      | true => have := cov_iff.1 h j h1; simp at h3; omega
    rw [this]
    exact .inl ⟨_, h2, rfl⟩
end Go.Proofs.YtollbcdhmnnjeaaDoor.Ab
