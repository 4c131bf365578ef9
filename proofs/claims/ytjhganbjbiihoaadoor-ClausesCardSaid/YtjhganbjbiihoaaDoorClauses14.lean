/- Clauses: the reference's weight, variables, dull ones. For every input; no condition. -/
import Derived.Test.YtjhganbjbiihoaaDoorClauses0
import Derived.Test.YtjhganbjbiihoaaDoorClauses1
import Derived.Test.YtjhganbjbiihoaaDoorClauses2
import Derived.Test.YtjhganbjbiihoaaDoorClauses3
import Derived.Test.YtjhganbjbiihoaaDoorClauses4
import Derived.Test.YtjhganbjbiihoaaDoorClauses5
import Derived.Test.YtjhganbjbiihoaaDoorClauses6
import Derived.Test.YtjhganbjbiihoaaDoorClauses7
import Derived.Test.YtjhganbjbiihoaaDoorClauses8
import Derived.Test.YtjhganbjbiihoaaDoorClauses9
import Derived.Test.YtjhganbjbiihoaaDoorClauses10
import Derived.Test.YtjhganbjbiihoaaDoorClauses11
import Derived.Test.YtjhganbjbiihoaaDoorClauses12
import Derived.Test.YtjhganbjbiihoaaDoorClauses13
set_option linter.unusedVariables false
set_option linter.unusedSimpArgs false
set_option maxRecDepth 100000
namespace Go.Proofs.YtjhganbjbiihoaaDoor.Ab
open Go Go.Ab Go.Qu Go.Proofs
attribute [local simp] and_assoc
theorem cl_ok {g : List Sym} {c : Cl} (h : clB g c = true) : ClOk g c.c := clOk.1 ((clB_c g c).symm.trans h)
theorem cl_la {g : List Sym} {c : Cl} (h : clB g c = true) : ∀ l ∈ c.ls, atomB g l.r.l = true := fun l hl => (cl_ok h).la l.c (List.mem_map_of_mem hl)
theorem cl_ca {g : List Sym} {c : Cl} (h : clB g c = true) : ∀ l ∈ c.cs, atomB g l.r.l = true := fun l hl => (cl_ok h).ca l.c (List.mem_map_of_mem hl)
theorem cl_l5 {g : List Sym} {c : Cl} (h : clB g c = true) : c.ls.length ≤ 5 := by have := (cl_ok h).l5; simpa [Cl.c] using this
theorem cl_t3 {g : List Sym} {c : Cl} (h : clB g c = true) : c.ts.length ≤ 3 := by have := (cl_ok h).t3; simpa [Cl.c] using this
theorem cl_c3 {g : List Sym} {c : Cl} (h : clB g c = true) : c.cs.length ≤ 3 := by have := (cl_ok h).c3; simpa [Cl.c] using this
theorem len49 {g : List Sym} {a : List Int} (h : atomB g a = true) : Len a := by have := (atom_codes h).1; unfold Len; omega
theorem wt_bounds {g : List Sym} (hg : SigOk g) : ∀ (ls : List LitR), (∀ l ∈ ls, atomB g l.r.l = true) → 0 ≤ wtL g (ls.map LitR.c) ∧ wtL g (ls.map LitR.c) ≤ 1000 * ls.length
  | [], _ => by simp [wtL]
  | l :: ls, h => by
    have ih := wt_bounds hg ls (fun x hx => h x (List.mem_cons_of_mem _ hx))
    have ha := h l (by simp)
    have h1 := sumW_le hg l.r.l (atom_known ha)
    have h2 := (atom_codes ha).1
    have e : wtL g ((l :: ls).map LitR.c) = sumW g l.r.l + wtL g (ls.map LitR.c) := rfl
    rw [e, List.length_cons]
    omega
theorem w_rheavyc {g : List Sym} {c : Cl} (hc : clB g c = true) (z : Bool) (e : List D) : C 34 [iG z g e, iC c] = some (iI (wtL g c.c.ls), [iG z g e, iC c]) := by
  refine wfn (lk := []) rfl rfl (fnW_way (q34 _ _ z (syms g) e c.lz (lits c.ls) c.le c.tz (rws c.ts) c.te c.cz (lits c.cs) c.ce _) ?_)
  have hg : SigOk g := sigOk (cl_ok hc).sg
  have h5 := cl_l5 hc
  have hla := cl_la hc
  have h1 := blk_fun (F := F) (d := d34) (lk := []) (p := [1,1,0,1,0,0]) (p0 := [1,1,0,1]) (id := 0) (by kernel_rfl) (st := fun (i : Nat) => [(0, iG z g e), (3, .dbox 26 0 [.sl 2 c.lz (lits c.ls) c.le, .sl 1 c.tz (rws c.ts) c.te, .sl 2 c.cz (lits c.cs) c.ce]), (5, iI (wtL g ((c.ls.take i).map LitR.c))), (6, iI i)]) (I := fun i => i ≤ c.ls.length) (μ := fun i => c.ls.length - i)
    (res := fun _ => .norm [(0, iG z g e), (3, .dbox 26 0 [.sl 2 c.lz (lits c.ls) c.le, .sl 1 c.tz (rws c.ts) c.te, .sl 2 c.cz (lits c.cs) c.ce]), (5, iI (wtL g c.c.ls)), (6, iI c.ls.length)])
    (fun i hi => by
      by_cases h : i < c.ls.length
      · obtain ⟨l, hl1⟩ := at_lt h
        have hml := List.mem_of_getElem? hl1
        have e1 : c.ls.take (i + 1) = c.ls.take i ++ [l] := by rw [List.take_add_one, hl1]; rfl
        have b1 := wt_bounds hg (c.ls.take i) (fun x hx => hla x (List.mem_of_mem_take hx))
        have b2 : (c.ls.take i).length ≤ 5 := by simp; omega
        have ha := hla l hml
        have s1 := sumW_le hg l.r.l (atom_known ha)
        have s2 := (atom_codes ha).1
        have w := w_heavy hg (len49 ha) (atom_known ha) z l.r.z e l.r.e
        refine .go (i + 1) (wpQ_way (q34_l0a _ _ z (syms g) e c.lz (lits c.ls) c.le c.tz (rws c.ts) c.te c.cz (lits c.cs) c.ce _ i _) ?_) h (by omega) rfl
        refine condW_t (decide_eq_true (by rw [lits_len]; omega)) (condW_t (decide_eq_true (by omega)) ?_)
        rw [Int.toNat_natCast]
        refine ⟨_, _, _, _, lits_at hl1, _, _, _, w, ?_⟩
        have hw : IntKind.wrap .i64 (wtL g ((c.ls.take i).map LitR.c) + sumW g l.r.l) = wtL g ((c.ls.take (i + 1)).map LitR.c) := by
          rw [e1, List.map_append, wtL_app, wr _ (by omega) (by omega)]
          simp [wtL, LitR.c]
        rw [hw, wr1 h (by omega)]
      · have e1 : i = c.ls.length := by omega
        subst e1
        refine .stop (.exit 0 [(0, iG z g e), (3, .dbox 26 0 [.sl 2 c.lz (lits c.ls) c.le, .sl 1 c.tz (rws c.ts) c.te, .sl 2 c.cz (lits c.cs) c.ce]), (5, iI (wtL g c.c.ls)), (6, iI c.ls.length)]) (wpQ_way (q34_l0a _ _ z (syms g) e c.lz (lits c.ls) c.le c.tz (rws c.ts) c.te c.cz (lits c.cs) c.ce _ c.ls.length _) (condW_f (decide_eq_false (by rw [lits_len]; omega)) ?_)) rfl rfl
        rw [List.take_length]
        rfl) 0 (Nat.zero_le _)
  exact ⟨_, _, _, _, _, _, _, _, _, _, _, _, _, _, h1, rfl⟩
theorem w_rweight (z : Bool) (g : List Sym) (e : List D) (c : Cl) : C 11 [iG z g e, iC c] = some (.tup [iI (if clB g c = true then wtL g c.c.ls else 0), iI (if clB g c = true then 0 else 800)], [iG z g e, iC c]) := by
  refine wfn (lk := []) rfl rfl (fnW_way (q11 _ _ z (syms g) e c.lz (lits c.ls) c.le c.tz (rws c.ts) c.te c.cz (lits c.cs) c.ce _) ?_)
  refine ⟨_, _, _, w_rclmay z g e c, ?_⟩
  cases hc : clB g c with
  | false => exact condW_f rfl rfl
  | true => exact condW_t rfl ⟨_, _, _, w_rheavyc hc z e, rfl⟩
theorem w_rvarsc (z : Bool) (g : List Sym) (e : List D) (c : Cl) : C 13 [iG z g e, iC c] = some (.tup [.own (if clB g c = true then varsC c.c.rows else []).isEmpty 3 1 (ints (if clB g c = true then varsC c.c.rows else [])), iI (if clB g c = true then 0 else 800)], [iG z g e, iC c]) := by
  refine wfn (lk := []) rfl rfl (fnW_way (q13 _ _ z (syms g) e c.lz (lits c.ls) c.le c.tz (rws c.ts) c.te c.cz (lits c.cs) c.ce _) ?_)
  refine ⟨_, _, _, w_rclmay z g e c, ?_⟩
  cases hc : clB g c with
  | false => exact condW_f rfl rfl
  | true => exact condW_t rfl ⟨_, _, _, w_rvo hc, rfl⟩
/-! ### Dull -/
abbrev bxC (c : Cl) : IV := .dbox 26 0 [.sl 2 c.lz (lits c.ls) c.le, .sl 1 c.tz (rws c.ts) c.te, .sl 2 c.cz (lits c.cs) c.ce]
def litAt (ls : List LitR) (i : Nat) : LC := match ls[i]? with | some l => l.c | none => (false, [])
theorem l_dull2 {g : List Sym} {c : Cl} (hc : clB g c = true) (z : Bool) (e : List D) {i : Nat} {l : LitR} (hl : c.ls[i]? = some l) :
    ((∀ k, 0 ≤ k → k < i → (fun k => !oddB (litAt c.ls k) l.c) k = true) ∧ evP F (Go.Ab.W F) (JW F d42 []) d42 [] [1,0,1,0,0,1,0,0,1,1,1] [(0, iG z g e), (3, bxC c), (5, iI i), (6, iS l.r.z l.r.l l.r.e), (8, iI 0)] = some (.norm [(0, iG z g e), (3, bxC c), (5, iI i), (6, iS l.r.z l.r.l l.r.e), (8, iI i)])) ∨
    ((∃ k, 0 ≤ k ∧ k < i ∧ (fun k => !oddB (litAt c.ls k) l.c) k = false) ∧ evP F (Go.Ab.W F) (JW F d42 []) d42 [] [1,0,1,0,0,1,0,0,1,1,1] [(0, iG z g e), (3, bxC c), (5, iI i), (6, iS l.r.z l.r.l l.r.e), (8, iI 0)] = some (.ret [(4, iB true)])) := by
  have hi := (List.getElem?_eq_some_iff.1 hl).1
  have h5 := cl_l5 hc
  have hla := cl_la hc
  have key : ∀ (Q : Out → Prop) (k : Nat) (m : LitR), c.ls[k]? = some m → k < i →
      (if oddB m.c l.c = true then Q (.ret [(4, iB true)]) else Q (.norm [(0, iG z g e), (3, bxC c), (5, iI i), (6, iS l.r.z l.r.l l.r.e), (8, iI (k + 1 : Nat))])) →
      ∀ A, (wpQ F (Go.Ab.W F) R L42 (JW F d42 []) d42 [] [1,0,1,0,0,1,0,0,1,1,1,0,0] [(0, iG z g e), (3, bxC c), (5, iI i), (6, iS l.r.z l.r.l l.r.e), (8, iI k)] Q = A) → A := by
    intro Q k m hm hk hQ A hA
    rw [← hA]
    refine (q42_l2a _ _ z (syms g) e c.lz (lits c.ls) c.le c.tz (rws c.ts) c.te c.cz (lits c.cs) c.ce i l.r.z (ints l.r.l) l.r.e k Q).mpr ?_
    have w := w_same (len49 (hla m (List.mem_of_getElem? hm))) l.r.l m.r.z l.r.z m.r.e l.r.e
    have hw : IntKind.wrap .i64 ((k : Int) + 1) = ((k + 1 : Nat) : Int) := by rw [wr _ (by omega) (by omega)]; omega
    have ho : oddB m.c l.c = ((m.neg != l.neg) && decide (m.r.l = l.r.l)) := rfl
    rw [ho] at hQ
    refine condW_t (decide_eq_true (by omega)) (condW_t (decide_eq_true (by omega)) ?_)
    rw [Int.toNat_natCast, Int.toNat_natCast]
    refine ⟨_, _, _, _, lits_at hm, ?_⟩
    rw [hw]
    cases hm1 : m.neg with
    | true =>
      refine condW_t rfl (condW_t (decide_eq_true (by omega)) ⟨_, _, _, _, lits_at hl, ?_⟩)
      cases hl1 : l.neg with
      | true => rw [hm1, hl1] at hQ; exact condW_t rfl (by simpa using hQ)
      | false =>
        rw [hm1, hl1] at hQ
        refine condW_f rfl (condW_t (decide_eq_true (by omega)) ⟨_, _, _, _, lits_at hm, _, _, _, w, ?_⟩)
        by_cases he : m.r.l = l.r.l
        · rw [decide_eq_true he]; exact condW_t rfl (by simpa [he] using hQ)
        · rw [decide_eq_false he]; exact condW_f rfl (by simpa [he] using hQ)
    | false =>
      refine condW_f rfl (condW_t (decide_eq_true (by omega)) ⟨_, _, _, _, lits_at hl, ?_⟩)
      cases hl1 : l.neg with
      | false => rw [hm1, hl1] at hQ; exact condW_f rfl (by simpa using hQ)
      | true =>
        rw [hm1, hl1] at hQ
        refine condW_t rfl (condW_t (decide_eq_true (by omega)) ⟨_, _, _, _, lits_at hm, _, _, _, w, ?_⟩)
        by_cases he : m.r.l = l.r.l
        · rw [decide_eq_true he]; exact condW_t rfl (by simpa [he] using hQ)
        · rw [decide_eq_false he]; exact condW_f rfl (by simpa [he] using hQ)
  exact blk_all (F := F) (d := d42) (lk := []) (p := [1,0,1,0,0,1,0,0,1,1,1,0,0]) (p0 := [1,0,1,0,0,1,0,0,1,1,1]) (by kernel_rfl) (n := i) (id := 2) (st := fun k => [(0, iG z g e), (3, bxC c), (5, iI i), (6, iS l.r.z l.r.l l.r.e), (8, iI k)]) (q := fun k => !oddB (litAt c.ls k) l.c) (rt := [(4, iB true)]) (e := [(0, iG z g e), (3, bxC c), (5, iI i), (6, iS l.r.z l.r.l l.r.e), (8, iI i)])
    (fun k hk hq => by
      obtain ⟨m, hm⟩ := at_lt (show k < c.ls.length by omega)
      simp only [litAt, hm, Bool.not_eq_true'] at hq
      exact wpQ_way rfl (key _ k m hm hk (by rw [if_neg (by rw [hq]; simp)]) _ rfl))
    (fun k hk hq => by
      obtain ⟨m, hm⟩ := at_lt (show k < c.ls.length by omega)
      simp only [litAt, hm, Bool.not_eq_false'] at hq
      exact wpQ_way rfl (key _ k m hm hk (by rw [if_pos hq]) _ rfl))
    (wpQ_way (q42_l2a _ _ z (syms g) e c.lz (lits c.ls) c.le c.tz (rws c.ts) c.te c.cz (lits c.cs) c.ce i l.r.z (ints l.r.l) l.r.e i _) (condW_f (decide_eq_false (by omega)) rfl)) 0 (Nat.zero_le _)
end Go.Proofs.YtjhganbjbiihoaaDoor.Ab

/- Clauses: the reference's dull ones (the walk); Trivial. For every input; no condition. -/
set_option linter.unusedVariables false
set_option linter.unusedSimpArgs false
set_option maxRecDepth 100000
namespace Go.Proofs.YtjhganbjbiihoaaDoor.Ab
open Go Go.Ab Go.Qu Go.Proofs
attribute [local simp] and_assoc
def dullAt (g : List Sym) (ls : List LitR) (i : Nat) : Bool := selfB g (litAt ls i) || (List.range i).any fun k => oddB (litAt ls k) (litAt ls i)
theorem litAt_of {ls : List LitR} {i : Nat} {l : LitR} (h : ls[i]? = some l) : litAt ls i = l.c := by simp [litAt, h]
theorem triv_at (g : List Sym) (ls : List LitR) : trivB g (ls.map LitR.c) = true ↔ ∃ i, i < ls.length ∧ dullAt g ls i = true := by
  simp only [trivB, List.any_eq_true, dullAt, Bool.or_eq_true, List.mem_range]
  constructor
  · rintro ⟨x, hx, h⟩
    obtain ⟨l, hl, rfl⟩ := List.mem_map.1 hx
    obtain ⟨i, hi, hli⟩ := List.mem_iff_getElem.1 hl
    have hl1 : ls[i]? = some l := by rw [List.getElem?_eq_getElem hi, hli]
    rcases h with h | ⟨y, hy, h⟩
    · exact ⟨i, hi, .inl (by rw [litAt_of hl1]; exact h)⟩
    · obtain ⟨m, hm, rfl⟩ := List.mem_map.1 hy
      obtain ⟨k, hk, hmk⟩ := List.mem_iff_getElem.1 hm
      have hm1 : ls[k]? = some m := by rw [List.getElem?_eq_getElem hk, hmk]
      rcases Nat.lt_trichotomy k i with hlt | heq | hgt
      · exact ⟨i, hi, .inr ⟨k, hlt, by rw [litAt_of hl1, litAt_of hm1, odd_symm]; exact h⟩⟩
      · subst heq
        rw [hl1] at hm1
        cases hm1
        rw [odd_self] at h
        cases h
      · exact ⟨k, hk, .inr ⟨i, hgt, by rw [litAt_of hl1, litAt_of hm1]; exact h⟩⟩
  · rintro ⟨i, hi, h⟩
    obtain ⟨l, hl1⟩ := at_lt hi
    refine ⟨l.c, List.mem_map_of_mem (List.mem_of_getElem? hl1), ?_⟩
    rcases h with h | ⟨k, hk, h⟩
    · rw [litAt_of hl1] at h; exact .inl h
    · obtain ⟨m, hm1⟩ := at_lt (show k < ls.length by omega)
      rw [litAt_of hl1, litAt_of hm1, odd_symm] at h
      exact .inr ⟨m.c, List.mem_map_of_mem (List.mem_of_getElem? hm1), h⟩
theorem w_dull {g : List Sym} {c : Cl} (hc : clB g c = true) (z : Bool) (e : List D) : C 42 [iG z g e, iC c] = some (iB (trivB g c.c.ls), [iG z g e, iC c]) := by
  refine wfn (lk := []) rfl rfl (fnW_way (q42 _ _ z (syms g) e c.lz (lits c.ls) c.le c.tz (rws c.ts) c.te c.cz (lits c.cs) c.ce _) ?_)
  have hg : SigOk g := sigOk (cl_ok hc).sg
  have h5 := cl_l5 hc
  have hla := cl_la hc
  have turn : ∀ (i : Nat) (o : Out), i < c.ls.length → o = (if dullAt g c.ls i = true then .ret [(4, iB true)] else .norm [(0, iG z g e), (3, bxC c), (5, iI (i + 1 : Nat))]) →
      evP F (Go.Ab.W F) (JW F d42 []) d42 [] [1,0,1,0,0] [(0, iG z g e), (3, bxC c), (5, iI i)] = some o := by
    intro i o hi ho
    obtain ⟨l, hl1⟩ := at_lt hi
    have hml := List.mem_of_getElem? hl1
    have ha := hla l hml
    have hw := wr1 hi (by omega)
    refine wpQ_way (q42_l0a _ _ z (syms g) e c.lz (lits c.ls) c.le c.tz (rws c.ts) c.te c.cz (lits c.cs) c.ce i _) ?_
    have inner := l_dull2 hc z e hl1
    have hin : ∀ (b : Bool), selfB g l.c = b → b = false →
        ((∃ w8, evP F (Go.Ab.W F) (JW F d42 []) d42 [] [1,0,1,0,0,1,0,0,1,1,1] [(0, iG z g e), (3, bxC c), (5, iI i), (6, iS l.r.z l.r.l l.r.e), (8, iI 0)] = some (.ret [(4, iB w8)]) ∧ Out.ret [(4, iB w8)] = o) ∨
         (evP F (Go.Ab.W F) (JW F d42 []) d42 [] [1,0,1,0,0,1,0,0,1,1,1] [(0, iG z g e), (3, bxC c), (5, iI i), (6, iS l.r.z l.r.l l.r.e), (8, iI 0)] = some (.norm [(0, iG z g e), (3, bxC c), (5, iI i), (6, iS l.r.z l.r.l l.r.e), (8, iI i)]) ∧ Out.norm [(0, iG z g e), (3, bxC c), (5, iI (IntKind.wrap .i64 ((i : Int) + 1)))] = o)) := fun b hb hb2 => by
      subst hb2
      rcases inner with ⟨h1, h2⟩ | ⟨⟨k, _, hk, h1⟩, h2⟩
      · refine .inr ⟨h2, ?_⟩
        have hd : dullAt g c.ls i = false := by
          rw [dullAt, litAt_of hl1, hb, Bool.false_or, List.any_eq_false]
          intro k hk
          have := h1 k (Nat.zero_le _) (List.mem_range.1 hk)
          simpa using this
        rw [ho, hd, hw]
        simp
      · refine .inl ⟨true, h2, ?_⟩
        have hd : dullAt g c.ls i = true := by
          rw [dullAt, litAt_of hl1, hb, Bool.false_or, List.any_eq_true]
          exact ⟨k, List.mem_range.2 hk, by simpa using h1⟩
        rw [ho, hd]
        simp
    refine condW_t (decide_eq_true (by rw [lits_len]; omega)) (condW_t (decide_eq_true (by omega)) ?_)
    rw [Int.toNat_natCast]
    refine ⟨_, _, _, _, lits_at hl1, condW_t (decide_eq_true (by omega)) ⟨_, _, _, _, lits_at hl1, ?_⟩⟩
    have hsn : l.neg = true → selfB g l.c = false := fun hn => by
      have : l.c = (l.neg, l.r.l) := rfl
      rw [this, hn]
      rfl
    cases hneg : l.neg with
    | true =>
      refine condW_t rfl ?_
      rcases hin _ rfl (hsn hneg) with ⟨w8, h1, h2⟩ | ⟨h1, h2⟩
      · exact .inl ⟨_, h1, h2⟩
      · exact .inr ⟨_, _, _, _, _, _, _, _, _, _, _, _, _, _, _, _, _, h1, h2⟩
    | false =>
      refine condW_f rfl ?_
      obtain ⟨neg, ⟨rz, rl, re⟩⟩ := l
      dsimp only at ha hneg hin hl1 inner ⊢
      subst hneg
      cases rl with
      | nil => simp [atomB] at ha
      | cons p r =>
      have hrow := (atom_row ha).2
      have hr48 := (rowB_parts hrow).2.1
      refine ⟨p, rfl, ?_⟩
      by_cases hp : p = 0
      rotate_left
      · have hsf : selfB g (LitR.c ⟨false, ⟨rz, p :: r, re⟩⟩) = false := by
          have h0 : (gi (p :: r) 0 == 0) = false := by simpa [gi] using hp
          simp only [selfB, LitR.c]
          rw [h0]; rfl
        refine condW_f (by simpa using hp) ?_
        rcases hin _ rfl hsf with ⟨w8, h1, h2⟩ | ⟨h1, h2⟩
        · exact .inl ⟨_, h1, h2⟩
        · exact .inr ⟨_, _, _, _, _, _, _, _, _, _, _, _, _, _, _, _, _, h1, h2⟩
      subst hp
      obtain ⟨a, b, rfl, ha1, hb1⟩ := eq_sides ha
      have hpc : pcs g (a ++ b) = [a, b] := by
        have := pcs_flat (g := g) (ts := [a, b]) (fun x hx => by
          simp at hx
          rcases hx with rfl | rfl
          · exact ha1
          · exact hb1)
        simpa using this
      obtain ⟨_, _, ts, hts, _⟩ := rowB_parts hrow
      have h6 := pcs_parts _ (Nat.le_refl _) hts
      rw [hpc] at h6
      subst h6
      have hwp := w_parts hg z rz e [] (r := a ++ b) (by omega) hts
      rw [List.length_append] at hr48
      have he := w_same (a := a) (by unfold Len; omega) b rz rz [] []
      have hd : List.drop (Int.toNat 1) (ints (0 :: (a ++ b))) = ints (a ++ b) := rfl
      have hsf : selfB g (LitR.c ⟨false, ⟨rz, 0 :: (a ++ b), re⟩⟩) = decide (a = b) := by
        simp only [selfB, LitR.c, List.tail_cons, hts]
        simp [gi]
      refine condW_t rfl (condW_t (decide_eq_true (by rw [ints_len]; simp; omega)) ?_)
      rw [hd]
      refine ⟨_, _, _, _, hwp, _, rfl, _, _, _, rfl, _, rfl, _, _, _, rfl, _, _, _, he, ?_⟩
      by_cases hab : a = b
      · rw [decide_eq_true hab]
        refine condW_t rfl ?_
        have hdl : dullAt g c.ls i = true := by
          rw [dullAt, litAt_of hl1, hsf, decide_eq_true hab, Bool.true_or]
        rw [ho, hdl]
        simp
      · rw [decide_eq_false hab]
        refine condW_f rfl ?_
        rcases hin _ rfl (hsf.trans (decide_eq_false hab)) with ⟨w8, h1, h2⟩ | ⟨h1, h2⟩
        · exact .inl ⟨_, h1, h2⟩
        · exact .inr ⟨_, _, _, _, _, _, _, _, _, _, _, _, _, _, _, _, _, h1, h2⟩
  have hls : c.c.ls = c.ls.map LitR.c := rfl
  rcases blk_all (F := F) (d := d42) (lk := []) (p := [1,0,1,0,0]) (p0 := [1,0,1]) (by kernel_rfl) (n := c.ls.length) (id := 0) (st := fun i => [(0, iG z g e), (3, bxC c), (5, iI i)]) (q := fun i => !dullAt g c.ls i) (rt := [(4, iB true)]) (e := [(0, iG z g e), (3, bxC c), (5, iI c.ls.length)])
    (fun i hi hq => turn i _ hi (by rw [if_neg (by simpa using hq)]))
    (fun i hi hq => turn i _ hi (by rw [if_pos (by simpa using hq)]))
    (wpQ_way (q42_l0a _ _ z (syms g) e c.lz (lits c.ls) c.le c.tz (rws c.ts) c.te c.cz (lits c.cs) c.ce c.ls.length _) (condW_f (decide_eq_false (by rw [lits_len]; omega)) rfl)) 0 (Nat.zero_le _) with ⟨h1, h2⟩ | ⟨⟨i, _, hi, h1⟩, h2⟩
  · have ht : trivB g c.c.ls = false := by
      rw [hls, ← Bool.not_eq_true, triv_at]
      rintro ⟨i, hi, h3⟩
      have := h1 i (Nat.zero_le _) hi
      rw [h3] at this
      cases this
    rw [ht]
    exact .inr ⟨_, _, _, _, _, _, _, _, _, _, _, _, _, h2, rfl⟩
  · have ht : trivB g c.c.ls = true := by
      rw [hls, triv_at]
      exact ⟨i, hi, by simpa using h1⟩
    rw [ht]
    exact .inl ⟨_, h2, rfl⟩
theorem w_rtrivial (z : Bool) (g : List Sym) (e : List D) (c : Cl) : C 15 [iG z g e, iC c] = some (.tup [iB (clB g c && trivB g c.c.ls), iI (if clB g c = true then 0 else 800)], [iG z g e, iC c]) := by
  refine wfn (lk := []) rfl rfl (fnW_way (q15 _ _ z (syms g) e c.lz (lits c.ls) c.le c.tz (rws c.ts) c.te c.cz (lits c.cs) c.ce _) ?_)
  refine ⟨_, _, _, w_rclmay z g e c, ?_⟩
  cases hc : clB g c with
  | false => exact condW_f rfl rfl
  | true =>
    refine condW_t rfl ⟨_, _, _, w_dull hc z e, ?_⟩
    cases trivB g c.c.ls
    · exact condW_f rfl rfl
    · exact condW_t rfl rfl
end Go.Proofs.YtjhganbjbiihoaaDoor.Ab

/- Clauses: the reference's normal ones, each part once (the walk). For every input; no condition. -/
set_option linter.unusedVariables false
set_option linter.unusedSimpArgs false
set_option maxRecDepth 100000
namespace Go.Proofs.YtjhganbjbiihoaaDoor.Ab
open Go Go.Ab Go.Qu Go.Proofs
attribute [local simp] and_assoc
theorem drop_at {α : Type} {l : List α} {i : Nat} {x : α} (h : l[i]? = some x) : l.drop i = x :: l.drop (i + 1) := by
  have hi := (List.getElem?_eq_some_iff.1 h).1
  rw [List.drop_eq_getElem_cons hi]
  rw [List.getElem?_eq_getElem hi] at h
  cases h; rfl
theorem w_samelit {l : LitR} (hl : Len l.r.l) (m : LitR) : C 104 [iLit l.neg l.r.z l.r.l l.r.e, iLit m.neg m.r.z m.r.l m.r.e] = some (iB (decide (l.c = m.c)), [iLit l.neg l.r.z l.r.l l.r.e, iLit m.neg m.r.z m.r.l m.r.e]) := by
  refine wfn (lk := []) rfl rfl (fnW_way (q104 _ _ l.neg l.r.z (ints l.r.l) l.r.e m.neg m.r.z (ints m.r.l) m.r.e _) ?_)
  have h1 := w_same hl m.r.l l.r.z m.r.z l.r.e m.r.e
  have h2 : decide (l.c = m.c) = (decide (l.neg = m.neg) && decide (l.r.l = m.r.l)) := by
    rw [Bool.eq_iff_iff]; simp [LitR.c]
  rw [h2]
  obtain ⟨b1, r⟩ := l
  obtain ⟨b2, s⟩ := m
  dsimp only at h1 ⊢
  cases b1 <;> cases b2
  · refine condW_f rfl (condW_f rfl ⟨_, _, _, h1, ?_⟩)
    cases decide (r.l = s.l)
    · exact condW_f rfl rfl
    · exact condW_t rfl rfl
  · exact condW_f rfl (condW_t rfl rfl)
  · exact condW_t rfl (condW_f rfl rfl)
  · refine condW_t rfl (condW_t rfl ⟨_, _, _, h1, ?_⟩)
    cases decide (r.l = s.l)
    · exact condW_f rfl rfl
    · exact condW_t rfl rfl
abbrev oL (us : List LitR) : IV := .own us.isEmpty 57 2 (lits us)
theorem l_rlits {ls us : List LitR} (hn : us.length ≤ 1000) (hu : ∀ l ∈ us, Len l.r.l) (z : Bool) (e : List D) {i : Nat} {l : LitR} (hl : ls[i]? = some l) :
    evP F (Go.Ab.W F) (JW F d81 []) d81 [] [1,1,0,1,0,0,1,0,0,1,0,1] [(0, iL z ls e), (3, oL us), (4, iI i), (5, iB false), (6, iI 0)] = some (.norm [(0, iL z ls e), (3, oL us), (4, iI i), (5, iB (decide (l.c ∈ us.map LitR.c))), (6, iI us.length)]) := by
  have h1 := fun x hx => blk_fun (F := F) (d := d81) (lk := []) (p := [1,1,0,1,0,0,1,0,0,1,0,1,0,0]) (p0 := [1,1,0,1,0,0,1,0,0,1,0,1]) (id := 2) (by kernel_rfl) (st := fun (x : Bool × Nat) => [(0, iL z ls e), (3, oL us), (4, iI i), (5, iB x.1), (6, iI x.2)]) (I := fun x => x.2 ≤ us.length) (μ := fun x => us.length - x.2)
    (res := fun x => .norm [(0, iL z ls e), (3, oL us), (4, iI i), (5, iB (x.1 || (us.drop x.2).any fun m => decide (m.c = l.c))), (6, iI us.length)])
    (fun x hx => by
      obtain ⟨b, k⟩ := x
      dsimp only at hx
      by_cases hk : k < us.length
      · obtain ⟨m, hm⟩ := at_lt hk
        have hs := w_samelit (hu m (List.mem_of_getElem? hm)) l
        have hd := drop_at hm
        cases b with
        | true =>
          refine .go (true, k + 1) (wpQ_way (q81_l2a _ _ z (lits ls) e us.isEmpty (lits us) i true k _) ?_) (by dsimp only; omega) (by dsimp only; omega) ?_
          · refine condW_t (decide_eq_true (by rw [lits_len]; omega)) (condW_t rfl ?_)
            rw [wr1 hk (by omega)]
          · dsimp only; simp
        | false =>
          refine .go (decide (m.c = l.c), k + 1) (wpQ_way (q81_l2a _ _ z (lits ls) e us.isEmpty (lits us) i false k _) ?_) (by dsimp only; omega) (by dsimp only; omega) ?_
          · refine condW_t (decide_eq_true (by rw [lits_len]; omega)) (condW_f rfl (condW_t (decide_eq_true (by omega)) ?_))
            rw [Int.toNat_natCast, Int.toNat_natCast]
            refine ⟨_, lits_at hm, _, _, _, _, lits_at hm, condW_t (decide_eq_true (by omega)) ⟨_, _, _, _, lits_at hl, _, _, _, hs, ?_⟩⟩
            rw [wr1 hk (by omega)]
            cases decide (m.c = l.c)
            · exact condW_f rfl rfl
            · exact condW_t rfl rfl
          · dsimp only; rw [hd, List.any_cons, Bool.false_or]
      · have e1 : k = us.length := by omega
        subst e1
        refine .stop (.exit 2 [(0, iL z ls e), (3, oL us), (4, iI i), (5, iB b), (6, iI us.length)]) (wpQ_way (q81_l2a _ _ z (lits ls) e us.isEmpty (lits us) i b us.length _) (condW_f (decide_eq_false (by rw [lits_len]; omega)) rfl)) rfl ?_
        simp [blkO]) x hx
  have h2 := h1 (false, 0) (Nat.zero_le _)
  have h3 : (us.any fun m => decide (m.c = l.c)) = decide (l.c ∈ us.map LitR.c) := by
    rw [Bool.eq_iff_iff]
    simp only [List.any_eq_true, decide_eq_true_eq, List.mem_map]
  dsimp only at h2
  rw [List.drop_zero, Bool.false_or, h3] at h2
  exact h2
theorem w_rlits {ls : List LitR} (hn : ls.length ≤ 1000) (hl : ∀ l ∈ ls, Len l.r.l) (z : Bool) (e : List D) : C 81 [iL z ls e] = some (oL (onceK LitR.c [] ls), [iL z ls e]) := by
  refine wfn (lk := []) rfl rfl (fnW_way (q81 _ _ z (lits ls) e _) ?_)
  have h1 := fun x hx => blk_fun (F := F) (d := d81) (lk := []) (p := [1,1,0,1,0,0]) (p0 := [1,1,0,1]) (id := 0) (by kernel_rfl) (st := fun (x : List LitR × Nat) => [(0, iL z ls e), (3, oL x.1), (4, iI x.2)]) (I := fun x => x.2 ≤ ls.length ∧ x.1.length ≤ x.2 ∧ ∀ l ∈ x.1, Len l.r.l) (μ := fun x => ls.length - x.2)
    (res := fun x => .norm [(0, iL z ls e), (3, oL (onceK LitR.c x.1 (ls.drop x.2))), (4, iI ls.length)])
    (fun x hx => by
      obtain ⟨us, i⟩ := x
      obtain ⟨hx1, hx2, hx3⟩ := hx
      dsimp only at hx1 hx2 hx3
      by_cases hi : i < ls.length
      · obtain ⟨l, hl1⟩ := at_lt hi
        have hd := drop_at hl1
        have hin := l_rlits (us := us) (by omega) hx3 z e hl1
        by_cases hm : l.c ∈ us.map LitR.c
        · rw [decide_eq_true hm] at hin
          refine .go (us, i + 1) (wpQ_way (q81_l0a _ _ z (lits ls) e us.isEmpty (lits us) i _) ?_) ⟨by dsimp only; omega, by dsimp only; omega, hx3⟩ (by dsimp only; omega) ?_
          · refine condW_t (decide_eq_true (by rw [lits_len]; omega)) ⟨_, _, _, _, _, _, _, _, hin, condW_t rfl ?_⟩
            rw [wr1 hi (by omega)]
          · dsimp only; rw [hd, onceK, if_pos hm]
        · rw [decide_eq_false hm] at hin
          refine .go (us ++ [l], i + 1) (wpQ_way (q81_l0a _ _ z (lits ls) e us.isEmpty (lits us) i _) ?_) ⟨by dsimp only; omega, by simp; omega, fun m hm => by
            rcases List.mem_append.1 hm with hm | hm
            · exact hx3 m hm
            · rw [List.mem_singleton.1 hm]; exact hl l (List.mem_of_getElem? hl1)⟩ (by dsimp only; omega) ?_
          · refine condW_t (decide_eq_true (by rw [lits_len]; omega)) ⟨_, _, _, _, _, _, _, _, hin, condW_f rfl (condW_t (decide_eq_true (by omega)) ?_)⟩
            rw [Int.toNat_natCast]
            refine ⟨_, _, _, _, lits_at hl1, condW_t (decide_eq_true (by rw [lits_len]; omega)) (condW_t (decide_eq_true (by rw [lits_len]; omega)) ?_)⟩
            have e3 : (us ++ [l]).isEmpty = (us.isEmpty && false) := by simp
            rw [wr1 hi (by omega)]
            dsimp only [oL]
            rw [e3, lits_append]
            rfl
          · dsimp only; rw [hd, onceK, if_neg hm]
      · have e1 : i = ls.length := by omega
        subst e1
        refine .stop (.exit 0 [(0, iL z ls e), (3, oL us), (4, iI ls.length)]) (wpQ_way (q81_l0a _ _ z (lits ls) e us.isEmpty (lits us) ls.length _) (condW_f (decide_eq_false (by rw [lits_len]; omega)) rfl)) rfl ?_
        simp [blkO, onceK]) x hx
  have h2 := h1 ([], 0) ⟨Nat.zero_le _, Nat.le_refl _, by simp⟩
  dsimp only at h2
  rw [List.drop_zero] at h2
  exact ⟨_, _, _, _, _, _, h2, rfl⟩
/-! ### Binds that number anew -/
def nbsF (k : Nat) : List Int → List Bd
  | [] => []
  | c :: s => ⟨-1 - c, ⟨false, [-1 - (k : Int)], []⟩⟩ :: nbsF (k + 1) s
theorem nbs_app : ∀ (s : List Int) (k : Nat) (c : Int), nbsF k (s ++ [c]) = nbsF k s ++ [⟨-1 - c, ⟨false, [-1 - ((k + s.length : Nat) : Int)], []⟩⟩]
  | [], k, c => rfl
  | x :: s, k, c => by
    rw [List.cons_append, nbsF, nbsF, nbs_app s (k + 1) c, List.cons_append, List.length_cons, Nat.add_assoc, Nat.add_comm 1]
theorem nbs_len : ∀ (s : List Int) (k : Nat), (nbsF k s).length = s.length
  | [], k => rfl
  | x :: s, k => by rw [nbsF, List.length_cons, nbs_len s (k + 1), List.length_cons]
theorem nbs_at : ∀ (s : List Int) (k j : Nat) (c : Int), s[j]? = some c → (nbsF k s)[j]? = some ⟨-1 - c, ⟨false, [-1 - ((k + j : Nat) : Int)], []⟩⟩
  | [], k, j, c, h => by simp at h
  | x :: s, k, 0, c, h => by
    simp at h; subst h; rfl
  | x :: s, k, j + 1, c, h => by
    have h1 := nbs_at s (k + 1) j c (by simpa using h)
    rw [nbsF, List.getElem?_cons_succ, h1, Nat.add_assoc, Nat.add_comm 1]
theorem idx_first {c : Int} : ∀ (s : List Int) (j : Nat), s[j]? = some c → (∀ k, k < j → ∀ x, s[k]? = some x → x ≠ c) → s.idxOf c = j
  | [], j, h, _ => by simp at h
  | x :: s, 0, h, _ => by
    simp at h; subst h; simp
  | x :: s, j + 1, h, hk => by
    have h0 := hk 0 (by omega) x (by simp)
    have h1 := idx_first s j (by simpa using h) (fun k hk' y hy => hk (k + 1) (by omega) y (by simpa using hy))
    have h2 : (x == c) = false := by simpa using h0
    rw [List.idxOf_cons, h2, h1]
    rfl
theorem w_ofN {s : List Int} (hl : s.length ≤ 100000) (z : Bool) (e : List D) (c : Int) : ∃ k : Int, C 82 [iBd z (nbsF 0 s) e, iI (-1 - c)] = some (iI k, [iBd z (nbsF 0 s) e, iI (-1 - c)]) ∧ ((k < 0 ∧ c ∉ s) ∨ ∃ j : Nat, k = (j : Int) ∧ s[j]? = some c ∧ s.idxOf c = j) := by
  have hbl : (bds (nbsF 0 s)).length = s.length := by rw [bds_len, nbs_len]
  rcases blk_find (F := F) (d := d82) (lk := []) (p := [1,0,1,0,0]) (p0 := [1,0,1]) (by kernel_rfl) (n := s.length) (id := 0) (st := fun i => [(0, iBd z (nbsF 0 s) e), (1, iI (-1 - c)), (5, iI i)]) (q := fun i => match s[i]? with | some x => decide (x = c) | none => false) (rt := fun i => [(4, iI i)]) (e := [(0, iBd z (nbsF 0 s) e), (1, iI (-1 - c)), (5, iI s.length)])
    (fun i hi hq => by
      refine wpQ_way (q82_l0a _ _ z (bds (nbsF 0 s)) e (-1 - c) i _) ?_
      obtain ⟨x, hx⟩ := at_lt hi
      rw [hx] at hq
      dsimp only at hq
      refine condW_t (decide_eq_true (by rw [hbl]; omega)) (condW_t (decide_eq_true (by omega)) ?_)
      rw [Int.toNat_natCast]
      have hb : ((-1 - x : Int) == -1 - c) = false := by
        have := of_decide_eq_false hq
        simp; omega
      refine ⟨_, _, _, _, bds_at (nbs_at s 0 i x hx), condW_f hb ?_⟩
      rw [wr1 hi (by omega)])
    (fun i hi hq => by
      refine wpQ_way (q82_l0a _ _ z (bds (nbsF 0 s)) e (-1 - c) i _) ?_
      obtain ⟨x, hx⟩ := at_lt hi
      rw [hx] at hq
      dsimp only at hq
      refine condW_t (decide_eq_true (by rw [hbl]; omega)) (condW_t (decide_eq_true (by omega)) ?_)
      rw [Int.toNat_natCast]
      have hb : ((-1 - x : Int) == -1 - c) = true := by
        have := of_decide_eq_true hq
        subst this; simp
      exact ⟨_, _, _, _, bds_at (nbs_at s 0 i x hx), condW_t hb rfl⟩)
    (wpQ_way (q82_l0a _ _ z (bds (nbsF 0 s)) e (-1 - c) s.length _) (condW_f (decide_eq_false (by rw [hbl]; omega)) rfl)) 0 (Nat.zero_le _) with ⟨h2, h3⟩ | ⟨j, h1, h2, h4, h5, h3⟩
  · have hf : c ∉ s := fun hm => by
      obtain ⟨j, hj, hjc⟩ := List.getElem_of_mem hm
      have := h2 j (Nat.zero_le _) hj
      rw [List.getElem?_eq_getElem hj, hjc] at this
      simp at this
    refine ⟨-1, wfn (lk := []) rfl rfl (fnW_way (q82 _ _ z (bds (nbsF 0 s)) e (-1 - c) _) ?_), .inl ⟨by decide, hf⟩⟩
    exact .inr ⟨_, _, _, _, _, h3, rfl⟩
  · obtain ⟨x, hx⟩ := at_lt h2
    rw [hx] at h4
    have hxc : x = c := of_decide_eq_true h4
    subst hxc
    have hf := idx_first s j hx (fun k hk y hy => by
      have := h5 k (Nat.zero_le _) hk
      rw [hy] at this
      exact of_decide_eq_false this)
    refine ⟨j, wfn (lk := []) rfl rfl (fnW_way (q82 _ _ z (bds (nbsF 0 s)) e (-1 - x) _) ?_), .inr ⟨j, rfl, hx, hf⟩⟩
    exact .inl ⟨_, h3, rfl⟩
theorem w_putN {s : List Int} (hl : s.length ≤ 100000) {r : List Int} (hr : r.length ≤ 1000) (hc : ∀ c ∈ r, -1000000 ≤ c) (hm : ∀ c ∈ r, c < 0 → c ∈ s) (z z' : Bool) (e e' : List D) : C 105 [iBd z (nbsF 0 s) e, iS z' r e'] = some (.own (renR s r).isEmpty 3 1 (ints (renR s r)), [iBd z (nbsF 0 s) e, iS z' r e']) := by
  refine wfn (lk := []) rfl rfl (fnW_way (q105 _ _ z (bds (nbsF 0 s)) e z' (ints r) e' _) ?_)
  have h1 := fun x hx => blk_fun (F := F) (d := d105) (lk := []) (p := [1,1,0,1,0,0]) (p0 := [1,1,0,1]) (id := 0) (by kernel_rfl) (st := fun (x : List Int × Nat) => [(0, iBd z (nbsF 0 s) e), (1, iS z' r e'), (5, .own x.1.isEmpty 3 1 (ints x.1)), (6, iI x.2)]) (I := fun x => x.2 ≤ r.length ∧ x.1.length ≤ x.2) (μ := fun x => r.length - x.2)
    (res := fun x => .norm [(0, iBd z (nbsF 0 s) e), (1, iS z' r e'), (5, .own (x.1 ++ renR s (r.drop x.2)).isEmpty 3 1 (ints (x.1 ++ renR s (r.drop x.2)))), (6, iI r.length)])
    (fun x hx => by
      obtain ⟨acc, i⟩ := x
      obtain ⟨hx1, hx2⟩ := hx
      dsimp only at hx1 hx2
      by_cases hi : i < r.length
      · have hci := hc _ (gi_mem hi)
        have hmi := hm _ (gi_mem hi)
        have hi0 : (0 : Int) ≤ (i : Int) := by omega
        have hat := Go.Ab.ints_at hi
        have n1 : (ints acc).length + (0 + 1) ≤ 9223372036854775807 := by rw [ints_len]; omega
        have n2 : ((ints acc).length + (0 + 1)) * 8 ≤ 140737488355328 := by rw [ints_len]; omega
        have h1c : ∀ (c : Int) (b : Bool), renC s (gi r i) = c → b = (acc.isEmpty && false) → Out.norm [(0, iBd z (nbsF 0 s) e), (1, iS z' r e'), (5, IV.own b 3 1 (ints acc ++ [D.int .i64 c])), (6, iI (i + 1 : Nat))] = Out.norm [(0, iBd z (nbsF 0 s) e), (1, iS z' r e'), (5, .own (acc ++ [renC s (gi r i)]).isEmpty 3 1 (ints (acc ++ [renC s (gi r i)]))), (6, iI (i + 1 : Nat))] := fun c b h h2 => by
          rw [h, h2]; simp [ints_append, ints_cons, ints_nil]
        refine .go (acc ++ [renC s (gi r i)], i + 1) (wpQ_way (q105_l0a _ _ z (bds (nbsF 0 s)) e z' (ints r) e' _ (ints acc) i _) ?_) ⟨by dsimp only; omega, by simp; omega⟩ (by dsimp only; omega) ?_
        · refine condW_t (decide_eq_true (by rw [ints_len]; omega)) (condW_t (decide_eq_true hi0) ?_)
          rw [Int.toNat_natCast]
          refine ⟨_, hat, ?_⟩
          by_cases h0 : gi r i < 0
          · obtain ⟨k, hk, hcase⟩ := w_ofN hl z e (gi r i)
            have hw : IntKind.wrap .i64 (-1 - gi r i) = -1 - gi r i := wr _ (by omega) (by omega)
            refine condW_t (decide_eq_true h0) (condW_t (decide_eq_true hi0) ⟨_, hat, k, _, _, by rw [hw]; exact hk, ?_⟩)
            rcases hcase with ⟨_, hf⟩ | ⟨j, rfl, hj, hidx⟩
            · exact absurd (hmi h0) hf
            · refine condW_f (decide_eq_false (by omega)) (condW_t (decide_eq_true (by omega)) ?_)
              rw [Int.toNat_natCast]
              refine ⟨_, _, _, _, bds_at (nbs_at s 0 j _ hj), condW_t (decide_eq_true n1) (condW_t (decide_eq_true n2) ?_)⟩
              rw [wr1 hi (by omega)]
              refine h1c _ _ ?_ rfl
              rw [renC, if_neg (by omega), hidx, Nat.zero_add]
          · refine condW_f (decide_eq_false h0) (condW_t (decide_eq_true hi0) ⟨_, hat, condW_t (decide_eq_true n1) (condW_t (decide_eq_true n2) ?_)⟩)
            rw [wr1 hi (by omega)]
            exact h1c _ _ (by rw [renC, if_pos (by omega)]) rfl
        · dsimp only
          have hd : renR s (r.drop i) = renC s (gi r i) :: renR s (r.drop (i + 1)) := by rw [gi_drop hi]; rfl
          rw [hd, List.append_assoc]; rfl
      · have e1 : i = r.length := by omega
        subst e1
        refine .stop (.exit 0 [(0, iBd z (nbsF 0 s) e), (1, iS z' r e'), (5, .own acc.isEmpty 3 1 (ints acc)), (6, iI r.length)]) (wpQ_way (q105_l0a _ _ z (bds (nbsF 0 s)) e z' (ints r) e' _ (ints acc) r.length _) (condW_f (decide_eq_false (by rw [ints_len]; omega)) rfl)) rfl ?_
        simp [blkO, renR]) x hx
  have h2 : evP F (Go.Ab.W F) (JW F d105 []) d105 [] [1,1,0,1] [(0, iBd z (nbsF 0 s) e), (1, iS z' r e'), (5, .own true 3 1 []), (6, iI 0)] = _ := h1 ([], 0) ⟨Nat.zero_le _, Nat.zero_le _⟩
  rw [List.drop_zero, List.nil_append] at h2
  exact ⟨_, _, _, _, _, _, _, _, _, h2, rfl⟩
end Go.Proofs.YtjhganbjbiihoaaDoor.Ab

/- Clauses: the reference's copies with variables numbered anew (the walk). For every input; no condition. -/
set_option linter.unusedVariables false
set_option linter.unusedSimpArgs false
set_option maxRecDepth 100000
namespace Go.Proofs.YtjhganbjbiihoaaDoor.Ab
open Go Go.Ab Go.Qu Go.Proofs
attribute [local simp] and_assoc
def anR (s : List Int) (r : Row) : Row := ⟨(renR s r.l).isEmpty, renR s r.l, []⟩
def anL (s : List Int) (l : LitR) : LitR := ⟨l.neg, anR s l.r⟩
def anCl (s : List Int) (c : Cl) : Cl := ⟨c.ls.isEmpty, c.ls.map (anL s), [], c.ts.isEmpty, c.ts.map (anR s), [], c.cs.isEmpty, c.cs.map (anL s), []⟩
theorem an_c (s : List Int) (c : Cl) : (anCl s c).c = renCC s c.c := by
  simp [anCl, Cl.c, renCC, List.map_map, Function.comp_def, anL, anR, LitR.c, renL]
structure RowN (s r : List Int) : Prop where
  len : r.length ≤ 1000
  codes : ∀ c ∈ r, -1000000 ≤ c
  mem : ∀ c ∈ r, c < 0 → c ∈ s
theorem w_putRow {s : List Int} (hl : s.length ≤ 100000) {r : Row} (h : RowN s r.l) (z : Bool) (e : List D) : C 105 [iBd z (nbsF 0 s) e, iS r.z r.l r.e] = some (.own (renR s r.l).isEmpty 3 1 (ints (renR s r.l)), [iBd z (nbsF 0 s) e, iS r.z r.l r.e]) := w_putN hl h.len h.codes h.mem z r.z e r.e
abbrev pO (us : List LitR) (vs : List Row) (ws : List LitR) : IV := .ptr 26 0 [.own us.isEmpty 57 2 (lits us), .own vs.isEmpty 33 1 (rws vs), .own ws.isEmpty 57 2 (lits ws)]
theorem map_emp {α β : Type} (f : α → β) (l : List α) : (l.map f).isEmpty = l.isEmpty := by cases l <;> rfl
theorem l_cp0 {s : List Int} (hl : s.length ≤ 100000) {c : Cl} (n : c.ls.length ≤ 1000) (hr : ∀ l ∈ c.ls, RowN s l.r.l) (z : Bool) (e : List D) :
    evP F (Go.Ab.W F) (JW F d83 []) d83 [] [1,1,0,1] [(0, iBd z (nbsF 0 s) e), (3, bC c), (4, b0), (5, pO [] [] []), (6, iI 0)] = some (.norm [(0, iBd z (nbsF 0 s) e), (3, bC c), (4, b0), (5, pO (c.ls.map (anL s)) [] []), (6, iI c.ls.length)]) := by
  have h1 := blk_fun (F := F) (d := d83) (lk := []) (p := [1,1,0,1,0,0]) (p0 := [1,1,0,1]) (id := 0) (by kernel_rfl) (st := fun (i : Nat) => [(0, iBd z (nbsF 0 s) e), (3, bC c), (4, b0), (5, pO ((c.ls.take i).map (anL s)) [] []), (6, iI i)]) (I := fun i => i ≤ c.ls.length) (μ := fun i => c.ls.length - i)
    (res := fun _ => .norm [(0, iBd z (nbsF 0 s) e), (3, bC c), (4, b0), (5, pO (c.ls.map (anL s)) [] []), (6, iI c.ls.length)])
    (fun i hi => by
      by_cases h : i < c.ls.length
      · obtain ⟨l, hl1⟩ := at_lt h
        have hml := hr l (List.mem_of_getElem? hl1)
        have e1 : c.ls.take (i + 1) = c.ls.take i ++ [l] := by rw [List.take_add_one, hl1]; rfl
        have hat := lits_at hl1
        have hp := w_putRow hl hml z e
        have n1 : (lits ((c.ls.take i).map (anL s))).length = i := by rw [lits_len]; simp; omega
        refine .go (i + 1) (wpQ_way (q83_l0a _ _ z (bds (nbsF 0 s)) e c.lz (lits c.ls) c.le c.tz (rws c.ts) c.te c.cz (lits c.cs) c.ce _ (lits ((c.ls.take i).map (anL s))) true [] true [] i _) ?_) h (by omega) rfl
        refine condW_t (decide_eq_true (by rw [lits_len]; omega)) (condW_t (decide_eq_true (by omega)) ?_)
        rw [Int.toNat_natCast, n1, wr1 h (by omega), e1, List.map_append, map_emp, List.map_singleton]
        obtain ⟨neg, r⟩ := l
        have e2 : ((c.ls.take i).map (anL s) ++ [anL s ⟨neg, r⟩]).isEmpty = ((c.ls.take i).isEmpty && false) := by simp
        dsimp only [pO]
        rw [e2, lits_append]
        cases neg
        · exact ⟨_, _, _, _, hat, condW_f rfl (condW_t (decide_eq_true (by omega)) ⟨_, _, _, _, hat, _, _, _, _, hp, condW_t (decide_eq_true (by omega)) (condW_t (decide_eq_true (by omega)) rfl)⟩)⟩
        · exact ⟨_, _, _, _, hat, condW_t rfl (condW_t (decide_eq_true (by omega)) ⟨_, _, _, _, hat, _, _, _, _, hp, condW_t (decide_eq_true (by omega)) (condW_t (decide_eq_true (by omega)) rfl)⟩)⟩
      · have e1 : i = c.ls.length := by omega
        subst e1
        refine .stop (.exit 0 [(0, iBd z (nbsF 0 s) e), (3, bC c), (4, b0), (5, pO (c.ls.map (anL s)) [] []), (6, iI c.ls.length)]) (wpQ_way (q83_l0a _ _ z (bds (nbsF 0 s)) e c.lz (lits c.ls) c.le c.tz (rws c.ts) c.te c.cz (lits c.cs) c.ce _ _ true [] true [] c.ls.length _) (condW_f (decide_eq_false (by rw [lits_len]; omega)) ?_)) rfl rfl
        rw [List.take_length]; rfl) 0 (Nat.zero_le _)
  exact h1
theorem l_cp2 {s : List Int} (hl : s.length ≤ 100000) {c : Cl} (n : c.ts.length ≤ 1000) (hr : ∀ r ∈ c.ts, RowN s r.l) (us : List LitR) (z : Bool) (e : List D) :
    evP F (Go.Ab.W F) (JW F d83 []) d83 [] [1,1,1,0,1] [(0, iBd z (nbsF 0 s) e), (3, bC c), (4, b0), (5, pO us [] []), (7, iI 0)] = some (.norm [(0, iBd z (nbsF 0 s) e), (3, bC c), (4, b0), (5, pO us (c.ts.map (anR s)) []), (7, iI c.ts.length)]) := by
  have h1 := blk_fun (F := F) (d := d83) (lk := []) (p := [1,1,1,0,1,0,0]) (p0 := [1,1,1,0,1]) (id := 2) (by kernel_rfl) (st := fun (i : Nat) => [(0, iBd z (nbsF 0 s) e), (3, bC c), (4, b0), (5, pO us ((c.ts.take i).map (anR s)) []), (7, iI i)]) (I := fun i => i ≤ c.ts.length) (μ := fun i => c.ts.length - i)
    (res := fun _ => .norm [(0, iBd z (nbsF 0 s) e), (3, bC c), (4, b0), (5, pO us (c.ts.map (anR s)) []), (7, iI c.ts.length)])
    (fun i hi => by
      by_cases h : i < c.ts.length
      · obtain ⟨l, hl1⟩ := at_lt h
        have hml := hr l (List.mem_of_getElem? hl1)
        have e1 : c.ts.take (i + 1) = c.ts.take i ++ [l] := by rw [List.take_add_one, hl1]; rfl
        have hat := rws_at hl1
        have hp := w_putRow hl hml z e
        have n1 : (rws ((c.ts.take i).map (anR s))).length = i := by rw [rws_len]; simp; omega
        refine .go (i + 1) (wpQ_way (q83_l2b _ _ z (bds (nbsF 0 s)) e c.lz (lits c.ls) c.le c.tz (rws c.ts) c.te c.cz (lits c.cs) c.ce us.isEmpty (lits us) _ (rws ((c.ts.take i).map (anR s))) true [] i _) ?_) h (by omega) rfl
        refine condW_t (decide_eq_true (by rw [rws_len]; omega)) (condW_t (decide_eq_true (by omega)) ?_)
        rw [Int.toNat_natCast, n1, wr1 h (by omega), e1, List.map_append, map_emp, List.map_singleton]
        have e2 : ((c.ts.take i).map (anR s) ++ [anR s l]).isEmpty = ((c.ts.take i).isEmpty && false) := by simp
        dsimp only [pO]
        rw [e2, rws_append]
        exact ⟨_, _, _, hat, _, _, _, _, hp, condW_t (decide_eq_true (by omega)) (condW_t (decide_eq_true (by omega)) rfl)⟩
      · have e1 : i = c.ts.length := by omega
        subst e1
        refine .stop (.exit 2 [(0, iBd z (nbsF 0 s) e), (3, bC c), (4, b0), (5, pO us (c.ts.map (anR s)) []), (7, iI c.ts.length)]) (wpQ_way (q83_l2b _ _ z (bds (nbsF 0 s)) e c.lz (lits c.ls) c.le c.tz (rws c.ts) c.te c.cz (lits c.cs) c.ce us.isEmpty (lits us) _ _ true [] c.ts.length _) (condW_f (decide_eq_false (by rw [rws_len]; omega)) ?_)) rfl rfl
        rw [List.take_length]; rfl) 0 (Nat.zero_le _)
  exact h1
theorem l_cp4 {s : List Int} (hl : s.length ≤ 100000) {c : Cl} (n : c.cs.length ≤ 1000) (hr : ∀ l ∈ c.cs, RowN s l.r.l) (us : List LitR) (vs : List Row) (z : Bool) (e : List D) :
    evP F (Go.Ab.W F) (JW F d83 []) d83 [] [1,1,1,1,0,1] [(0, iBd z (nbsF 0 s) e), (3, bC c), (4, b0), (5, pO us vs []), (8, iI 0)] = some (.norm [(0, iBd z (nbsF 0 s) e), (3, bC c), (4, b0), (5, pO us vs (c.cs.map (anL s))), (8, iI c.cs.length)]) := by
  have h1 := blk_fun (F := F) (d := d83) (lk := []) (p := [1,1,1,1,0,1,0,0]) (p0 := [1,1,1,1,0,1]) (id := 4) (by kernel_rfl) (st := fun (i : Nat) => [(0, iBd z (nbsF 0 s) e), (3, bC c), (4, b0), (5, pO us vs ((c.cs.take i).map (anL s))), (8, iI i)]) (I := fun i => i ≤ c.cs.length) (μ := fun i => c.cs.length - i)
    (res := fun _ => .norm [(0, iBd z (nbsF 0 s) e), (3, bC c), (4, b0), (5, pO us vs (c.cs.map (anL s))), (8, iI c.cs.length)])
    (fun i hi => by
      by_cases h : i < c.cs.length
      · obtain ⟨l, hl1⟩ := at_lt h
        have hml := hr l (List.mem_of_getElem? hl1)
        have e1 : c.cs.take (i + 1) = c.cs.take i ++ [l] := by rw [List.take_add_one, hl1]; rfl
        have hat := lits_at hl1
        have hp := w_putRow hl hml z e
        have n1 : (lits ((c.cs.take i).map (anL s))).length = i := by rw [lits_len]; simp; omega
        refine .go (i + 1) (wpQ_way (q83_l4b _ _ z (bds (nbsF 0 s)) e c.lz (lits c.ls) c.le c.tz (rws c.ts) c.te c.cz (lits c.cs) c.ce us.isEmpty (lits us) vs.isEmpty (rws vs) _ (lits ((c.cs.take i).map (anL s))) i _) ?_) h (by omega) rfl
        refine condW_t (decide_eq_true (by rw [lits_len]; omega)) (condW_t (decide_eq_true (by omega)) ?_)
        rw [Int.toNat_natCast, n1, wr1 h (by omega), e1, List.map_append, map_emp, List.map_singleton]
        obtain ⟨neg, r⟩ := l
        have e2 : ((c.cs.take i).map (anL s) ++ [anL s ⟨neg, r⟩]).isEmpty = ((c.cs.take i).isEmpty && false) := by simp
        dsimp only [pO]
        rw [e2, lits_append]
        cases neg
        · exact ⟨_, _, _, _, hat, condW_f rfl (condW_t (decide_eq_true (by omega)) ⟨_, _, _, _, hat, _, _, _, _, hp, condW_t (decide_eq_true (by omega)) (condW_t (decide_eq_true (by omega)) rfl)⟩)⟩
        · exact ⟨_, _, _, _, hat, condW_t rfl (condW_t (decide_eq_true (by omega)) ⟨_, _, _, _, hat, _, _, _, _, hp, condW_t (decide_eq_true (by omega)) (condW_t (decide_eq_true (by omega)) rfl)⟩)⟩
      · have e1 : i = c.cs.length := by omega
        subst e1
        refine .stop (.exit 4 [(0, iBd z (nbsF 0 s) e), (3, bC c), (4, b0), (5, pO us vs (c.cs.map (anL s))), (8, iI c.cs.length)]) (wpQ_way (q83_l4b _ _ z (bds (nbsF 0 s)) e c.lz (lits c.ls) c.le c.tz (rws c.ts) c.te c.cz (lits c.cs) c.ce us.isEmpty (lits us) vs.isEmpty (rws vs) _ _ c.cs.length _) (condW_f (decide_eq_false (by rw [lits_len]; omega)) ?_)) rfl rfl
        rw [List.take_length]) 0 (Nat.zero_le _)
  exact h1
theorem w_copyN {s : List Int} (hl : s.length ≤ 100000) {c : Cl} (n1 : c.ls.length ≤ 1000) (n2 : c.ts.length ≤ 1000) (n3 : c.cs.length ≤ 1000) (hr : ∀ r ∈ rowsOf c, RowN s r.l) (z : Bool) (e : List D) : C 83 [iBd z (nbsF 0 s) e, iC c] = some (oC (anCl s c), [iBd z (nbsF 0 s) e, iC c]) := by
  refine wfn (lk := []) rfl rfl (fnW_way (q83 _ _ z (bds (nbsF 0 s)) e c.lz (lits c.ls) c.le c.tz (rws c.ts) c.te c.cz (lits c.cs) c.ce _) ?_)
  have k1 := l_cp0 hl n1 (fun l hl' => hr l.r (by simp [rowsOf]; exact .inl ⟨l, hl', rfl⟩)) z e
  have k2 := l_cp2 hl n2 (fun r hr' => hr r (by simp [rowsOf, hr'])) (c.ls.map (anL s)) z e
  have k3 := l_cp4 hl n3 (fun l hl' => hr l.r (by simp [rowsOf]; exact .inr (.inr ⟨l, hl', rfl⟩))) (c.ls.map (anL s)) (c.ts.map (anR s)) z e
  refine ⟨_, _, _, _, _, _, _, _, _, _, _, _, _, _, _, _, _, _, _, k1, _, _, _, _, _, _, _, _, _, _, _, _, _, _, _, _, _, _, _, k2, _, _, _, _, _, _, _, _, _, _, _, _, _, _, _, _, _, _, _, k3, ?_⟩
  dsimp only [oC, anCl]
  rw [map_emp, map_emp, map_emp]
end Go.Proofs.YtjhganbjbiihoaaDoor.Ab

/- Clauses: the reference's normal ones (the walk). For every input; no condition. -/
set_option linter.unusedVariables false
set_option linter.unusedSimpArgs false
set_option maxRecDepth 100000
namespace Go.Proofs.YtjhganbjbiihoaaDoor.Ab
open Go Go.Ab Go.Qu Go.Proofs
attribute [local simp] and_assoc
structure ClN (c : Cl) : Prop where
  l5 : c.ls.length ≤ 5
  t3 : c.ts.length ≤ 3
  c3 : c.cs.length ≤ 3
  rows : ∀ r ∈ rowsOf c, r.l.length ≤ 49 ∧ ∀ x ∈ r.l, -24 ≤ x
theorem clN_of {g : List Sym} {c : Cl} (h : clB g c = true) : ClN c := by
  have hk := cl_ok h
  refine ⟨cl_l5 h, cl_t3 h, cl_c3 h, fun r hr' => ?_⟩
  simp only [rowsOf, List.mem_append, List.mem_map] at hr'
  rcases hr' with (⟨l, hl, rfl⟩ | hr') | ⟨l, hl, rfl⟩
  · have := atom_codes (cl_la h l hl)
    exact ⟨this.1, fun x hx => (this.2.1 x hx).1⟩
  · obtain ⟨k, hk⟩ := hk.tr
    have h1 := (hk r.l (by simp [Cl.c]; exact ⟨r, hr', rfl⟩)).1
    have := (rowB_parts h1).2.1
    exact ⟨by omega, fun x hx => (row_codes h1 x hx).1⟩
  · have := atom_codes (cl_ca h l hl)
    exact ⟨this.1, fun x hx => (this.2.1 x hx).1⟩
theorem in_rowsL {c : Cl} {l : LitR} (h : l ∈ c.ls) : l.r ∈ rowsOf c := by simp [rowsOf]; exact .inl ⟨l, h, rfl⟩
theorem in_rowsT {c : Cl} {r : Row} (h : r ∈ c.ts) : r ∈ rowsOf c := by simp [rowsOf, h]
theorem in_rowsC {c : Cl} {l : LitR} (h : l ∈ c.cs) : l.r ∈ rowsOf c := by simp [rowsOf]; exact .inr (.inr ⟨l, h, rfl⟩)
theorem clN_once {c : Cl} (h : ClN c) : ClN (onceC' c) := by
  refine ⟨Nat.le_trans (once_len LitR.c c.ls []) (by simpa using h.l5), Nat.le_trans (once_len (fun r : Row => r.l) c.ts []) (by simpa using h.t3), Nat.le_trans (once_len LitR.c c.cs []) (by simpa using h.c3), fun r hr => h.rows r ?_⟩
  simp only [rowsOf, onceC', List.mem_append, List.mem_map] at hr
  rcases hr with (⟨l, hl, rfl⟩ | hr) | ⟨l, hl, rfl⟩
  · exact in_rowsL (by simpa using once_sub LitR.c c.ls [] l hl)
  · exact in_rowsT (by simpa using once_sub (fun r : Row => r.l) c.ts [] r hr)
  · exact in_rowsC (by simpa using once_sub LitR.c c.cs [] l hl)
/-! ### Each tuple once -/
theorem l_nm2 {c : Cl} {us ws : List LitR} {vs : List Row} (hn : vs.length ≤ 1000) (hv : ∀ r ∈ vs, Len r.l) {i : Nat} {r : Row} (hl : c.ts[i]? = some r) :
    evP F (Go.Ab.W F) (JW F d46 []) d46 [] [1,1,0,1,0,0,1,0,0,1,0,1] [(1, bC c), (2, b0), (3, bO us vs ws), (4, iI i), (5, iB false), (6, iI 0)] = some (.norm [(1, bC c), (2, b0), (3, bO us vs ws), (4, iI i), (5, iB (decide (r.l ∈ vs.map fun r : Row => r.l))), (6, iI vs.length)]) := by
  have h1 := fun x hx => blk_fun (F := F) (d := d46) (lk := []) (p := [1,1,0,1,0,0,1,0,0,1,0,1,0,0]) (p0 := [1,1,0,1,0,0,1,0,0,1,0,1]) (id := 2) (by kernel_rfl) (st := fun (x : Bool × Nat) => [(1, bC c), (2, b0), (3, bO us vs ws), (4, iI i), (5, iB x.1), (6, iI x.2)]) (I := fun x => x.2 ≤ vs.length) (μ := fun x => vs.length - x.2)
    (res := fun x => .norm [(1, bC c), (2, b0), (3, bO us vs ws), (4, iI i), (5, iB (x.1 || (vs.drop x.2).any fun m => decide (m.l = r.l))), (6, iI vs.length)])
    (fun x hx => by
      obtain ⟨b, k⟩ := x
      dsimp only at hx
      by_cases hk : k < vs.length
      · obtain ⟨m, hm⟩ := at_lt hk
        have hs := w_same (hv m (List.mem_of_getElem? hm)) r.l m.z r.z m.e r.e
        have hd := drop_at hm
        cases b with
        | true =>
          refine .go (true, k + 1) (wpQ_way (q46_l2a _ _ c.lz (lits c.ls) c.le c.tz (rws c.ts) c.te c.cz (lits c.cs) c.ce us.isEmpty (lits us) vs.isEmpty (rws vs) ws.isEmpty (lits ws) i true k _) ?_) (by dsimp only; omega) (by dsimp only; omega) ?_
          · refine condW_t (decide_eq_true (by rw [rws_len]; omega)) (condW_t rfl ?_)
            rw [wr1 hk (by omega)]
          · dsimp only; simp
        | false =>
          refine .go (decide (m.l = r.l), k + 1) (wpQ_way (q46_l2a _ _ c.lz (lits c.ls) c.le c.tz (rws c.ts) c.te c.cz (lits c.cs) c.ce us.isEmpty (lits us) vs.isEmpty (rws vs) ws.isEmpty (lits ws) i false k _) ?_) (by dsimp only; omega) (by dsimp only; omega) ?_
          · refine condW_t (decide_eq_true (by rw [rws_len]; omega)) (condW_f rfl (condW_t (decide_eq_true (by omega)) ?_))
            rw [Int.toNat_natCast, Int.toNat_natCast]
            refine ⟨_, rws_at hm, _, _, _, rws_at hm, condW_t (decide_eq_true (by omega)) ⟨_, _, _, rws_at hl, _, _, _, hs, ?_⟩⟩
            rw [wr1 hk (by omega)]
            cases decide (m.l = r.l)
            · exact condW_f rfl rfl
            · exact condW_t rfl rfl
          · dsimp only; rw [hd, List.any_cons, Bool.false_or]
      · have e1 : k = vs.length := by omega
        subst e1
        refine .stop (.exit 2 [(1, bC c), (2, b0), (3, bO us vs ws), (4, iI i), (5, iB b), (6, iI vs.length)]) (wpQ_way (q46_l2a _ _ c.lz (lits c.ls) c.le c.tz (rws c.ts) c.te c.cz (lits c.cs) c.ce us.isEmpty (lits us) vs.isEmpty (rws vs) ws.isEmpty (lits ws) i b vs.length _) (condW_f (decide_eq_false (by rw [rws_len]; omega)) rfl)) rfl ?_
        simp [blkO]) x hx
  have h2 := h1 (false, 0) (Nat.zero_le _)
  have h3 : (vs.any fun m => decide (m.l = r.l)) = decide (r.l ∈ vs.map fun r : Row => r.l) := by
    rw [Bool.eq_iff_iff]
    simp only [List.any_eq_true, decide_eq_true_eq, List.mem_map]
  dsimp only at h2
  rw [List.drop_zero, Bool.false_or, h3] at h2
  exact h2
theorem l_nm0 {c : Cl} (us ws : List LitR) (hn : c.ts.length ≤ 1000) (hl : ∀ r ∈ c.ts, Len r.l) :
    evP F (Go.Ab.W F) (JW F d46 []) d46 [] [1,1,0,1] [(1, bC c), (2, b0), (3, bO us [] ws), (4, iI 0)] = some (.norm [(1, bC c), (2, b0), (3, bO us (onceK (fun r : Row => r.l) [] c.ts) ws), (4, iI c.ts.length)]) := by
  have h1 := fun x hx => blk_fun (F := F) (d := d46) (lk := []) (p := [1,1,0,1,0,0]) (p0 := [1,1,0,1]) (id := 0) (by kernel_rfl) (st := fun (x : List Row × Nat) => [(1, bC c), (2, b0), (3, bO us x.1 ws), (4, iI x.2)]) (I := fun x => x.2 ≤ c.ts.length ∧ x.1.length ≤ x.2 ∧ ∀ r ∈ x.1, Len r.l) (μ := fun x => c.ts.length - x.2)
    (res := fun x => .norm [(1, bC c), (2, b0), (3, bO us (onceK (fun r : Row => r.l) x.1 (c.ts.drop x.2)) ws), (4, iI c.ts.length)])
    (fun x hx => by
      obtain ⟨vs, i⟩ := x
      obtain ⟨hx1, hx2, hx3⟩ := hx
      dsimp only at hx1 hx2 hx3
      by_cases hi : i < c.ts.length
      · obtain ⟨r, hl1⟩ := at_lt hi
        have hd := drop_at hl1
        have hin := l_nm2 (us := us) (ws := ws) (vs := vs) (by omega) hx3 hl1
        by_cases hm : r.l ∈ vs.map fun r : Row => r.l
        · rw [decide_eq_true hm] at hin
          refine .go (vs, i + 1) (wpQ_way (q46_l0a _ _ c.lz (lits c.ls) c.le c.tz (rws c.ts) c.te c.cz (lits c.cs) c.ce us.isEmpty (lits us) vs.isEmpty (rws vs) ws.isEmpty (lits ws) i _) ?_) ⟨by dsimp only; omega, by dsimp only; omega, hx3⟩ (by dsimp only; omega) ?_
          · refine condW_t (decide_eq_true (by rw [rws_len]; omega)) ⟨_, _, _, _, _, _, _, _, _, _, _, _, _, _, _, _, _, _, hin, condW_t rfl ?_⟩
            rw [wr1 hi (by omega)]
          · dsimp only; rw [hd, onceK, if_pos hm]
        · rw [decide_eq_false hm] at hin
          refine .go (vs ++ [r], i + 1) (wpQ_way (q46_l0a _ _ c.lz (lits c.ls) c.le c.tz (rws c.ts) c.te c.cz (lits c.cs) c.ce us.isEmpty (lits us) vs.isEmpty (rws vs) ws.isEmpty (lits ws) i _) ?_) ⟨by dsimp only; omega, by simp; omega, fun m hm => by
            rcases List.mem_append.1 hm with hm | hm
            · exact hx3 m hm
            · rw [List.mem_singleton.1 hm]; exact hl r (List.mem_of_getElem? hl1)⟩ (by dsimp only; omega) ?_
          · refine condW_t (decide_eq_true (by rw [rws_len]; omega)) ⟨_, _, _, _, _, _, _, _, _, _, _, _, _, _, _, _, _, _, hin, condW_f rfl (condW_t (decide_eq_true (by omega)) ?_)⟩
            rw [Int.toNat_natCast]
            refine ⟨_, _, _, rws_at hl1, condW_t (decide_eq_true (by rw [rws_len]; omega)) (condW_t (decide_eq_true (by rw [rws_len]; omega)) ?_)⟩
            have e3 : (vs ++ [r]).isEmpty = (vs.isEmpty && false) := by simp
            rw [wr1 hi (by omega)]
            dsimp only [bO]
            rw [e3, rws_append]
            rfl
          · dsimp only; rw [hd, onceK, if_neg hm]
      · have e1 : i = c.ts.length := by omega
        subst e1
        refine .stop (.exit 0 [(1, bC c), (2, b0), (3, bO us vs ws), (4, iI c.ts.length)]) (wpQ_way (q46_l0a _ _ c.lz (lits c.ls) c.le c.tz (rws c.ts) c.te c.cz (lits c.cs) c.ce us.isEmpty (lits us) vs.isEmpty (rws vs) ws.isEmpty (lits ws) c.ts.length _) (condW_f (decide_eq_false (by rw [rws_len]; omega)) rfl)) rfl ?_
        simp [blkO, onceK]) x hx
  have h2 := h1 ([], 0) ⟨Nat.zero_le _, Nat.le_refl _, by simp⟩
  dsimp only at h2
  rw [List.drop_zero] at h2
  exact h2
/-! ### The variables, in the order in which they are seen -/
abbrev bP (c : Cl) : IV := .ptr 26 0 [.d (.sl 2 c.lz (lits c.ls) c.le), .d (.sl 1 c.tz (rws c.ts) c.te), .d (.sl 2 c.cz (lits c.cs) c.ce)]
abbrev oB (s : List Int) : IV := .own s.isEmpty 106 2 (bds (nbsF 0 s))
abbrev oRs (rs : List Row) : IV := .own rs.isEmpty 33 1 (rws rs)
theorem addS_len (s : List Int) (c : Int) : (addS s c).length ≤ s.length + 1 := by
  unfold addS
  split
  · omega
  · split
    · omega
    · simp
theorem l_nm6 {D : Cl} {rs : List Row} {s : List Int} (hs : s.length ≤ 1000) {i : Nat} {r : Row} (hl : rs[i]? = some r) (hr : r.l.length ≤ 1000) (hc : ∀ x ∈ r.l, -24 ≤ x) :
    evP F (Go.Ab.W F) (JW F d46 []) d46 [] [1,1,1,1,1,0,1,0,0,1,0,0,1] [(2, b0), (3, bP D), (7, oB s), (8, oRs rs), (9, iI i), (10, iI 0)] = some (.norm [(2, b0), (3, bP D), (7, oB (seenR s r.l)), (8, oRs rs), (9, iI i), (10, iI r.l.length)]) := by
  have h1 := fun x hx => blk_fun (F := F) (d := d46) (lk := []) (p := [1,1,1,1,1,0,1,0,0,1,0,0,1,0,0]) (p0 := [1,1,1,1,1,0,1,0,0,1,0,0,1]) (id := 6) (by kernel_rfl) (st := fun (x : List Int × Nat) => [(2, b0), (3, bP D), (7, oB x.1), (8, oRs rs), (9, iI i), (10, iI x.2)]) (I := fun x => x.2 ≤ r.l.length ∧ x.1.length ≤ 1000 + x.2) (μ := fun x => r.l.length - x.2)
    (res := fun x => .norm [(2, b0), (3, bP D), (7, oB (seenR x.1 (r.l.drop x.2))), (8, oRs rs), (9, iI i), (10, iI r.l.length)])
    (fun x hx => by
      obtain ⟨u, k⟩ := x
      obtain ⟨hx1, hx2⟩ := hx
      dsimp only at hx1 hx2
      have hat := rws_at hl
      have hi0 : decide ((0 : Int) ≤ (i : Int)) = true := decide_eq_true (by omega)
      have hk0 : decide ((0 : Int) ≤ (k : Int)) = true := decide_eq_true (by omega)
      have hbl : (bds (nbsF 0 u)).length = u.length := by rw [bds_len, nbs_len]
      by_cases hk : k < r.l.length
      · have hk1 : decide ((k : Int) < ((ints r.l).length : Int)) = true := decide_eq_true (by rw [ints_len]; omega)
        have hck := hc _ (gi_mem hk)
        have hka := Go.Ab.ints_at hk
        have hsd : seenR u (r.l.drop k) = seenR (addS u (gi r.l k)) (r.l.drop (k + 1)) := by rw [gi_drop hk]; rfl
        have hal := addS_len u (gi r.l k)
        refine .go (addS u (gi r.l k), k + 1) (wpQ_way (q46_l6a _ _ D.lz (lits D.ls) D.le D.tz (rws D.ts) D.te D.cz (lits D.cs) D.ce u.isEmpty (bds (nbsF 0 u)) rs.isEmpty (rws rs) i k _) ?_) ⟨hk, by dsimp only; omega⟩ (by dsimp only; omega) (by dsimp only; rw [hsd])
        refine condW_t hi0 ?_
        rw [Int.toNat_natCast, Int.toNat_natCast]
        refine ⟨_, hat, _, _, _, hat, condW_t hk1 (condW_t hi0 ⟨_, hat, _, _, _, hat, condW_t hk0 ⟨_, hka, ?_⟩⟩)⟩
        rw [wr1 hk (by omega)]
        by_cases h0 : gi r.l k < 0
        · have hw : IntKind.wrap .i64 (-1 - gi r.l k) = -1 - gi r.l k := wr _ (by omega) (by omega)
          have hw2 : IntKind.wrap .i64 (-1 - (u.length : Int)) = -1 - (u.length : Int) := wr _ (by omega) (by omega)
          obtain ⟨j, hj, hcase⟩ := w_ofN (s := u) (by omega) u.isEmpty [] (gi r.l k)
          refine condW_t (decide_eq_true h0) ⟨j, _, _, by rw [hw]; exact hj, ?_⟩
          rcases hcase with ⟨hj0, hm⟩ | ⟨j', rfl, hj', _⟩
          · have ha : addS u (gi r.l k) = u ++ [gi r.l k] := by rw [addS, if_neg (by omega), if_neg hm]
            refine condW_t (decide_eq_true hj0) (condW_t (decide_eq_true (by rw [hbl]; omega)) (condW_t (decide_eq_true (by rw [hbl]; omega)) ?_))
            have e3 : (u ++ [gi r.l k]).isEmpty = (u.isEmpty && false) := by simp
            rw [hw, hbl, hw2]
            dsimp only
            rw [ha]
            dsimp only [oB]
            rw [e3, nbs_app, bds_append, Nat.zero_add]
            rfl
          · have ha : addS u (gi r.l k) = u := by rw [addS, if_neg (by omega), if_pos (List.mem_of_getElem? hj')]
            refine condW_f (decide_eq_false (by omega)) ?_
            dsimp only
            rw [ha]
        · have ha : addS u (gi r.l k) = u := by rw [addS, if_pos (by omega)]
          refine condW_f (decide_eq_false h0) ?_
          dsimp only
          rw [ha]
      · have e1 : k = r.l.length := by omega
        subst e1
        refine .stop (.exit 6 [(2, b0), (3, bP D), (7, oB u), (8, oRs rs), (9, iI i), (10, iI r.l.length)]) (wpQ_way (q46_l6a _ _ D.lz (lits D.ls) D.le D.tz (rws D.ts) D.te D.cz (lits D.cs) D.ce u.isEmpty (bds (nbsF 0 u)) rs.isEmpty (rws rs) i r.l.length _) ?_) rfl ?_
        · refine condW_t hi0 ?_
          rw [Int.toNat_natCast]
          exact ⟨_, hat, _, _, _, hat, condW_f (decide_eq_false (by rw [ints_len]; omega)) rfl⟩
        · simp [blkO, seenR]) x hx
  have h2 := h1 (s, 0) ⟨Nat.zero_le _, hs⟩
  dsimp only at h2
  rw [List.drop_zero] at h2
  exact h2
theorem seenR_len : ∀ (r s : List Int), (seenR s r).length ≤ s.length + r.length
  | [], s => by simp [seenR]
  | c :: r, s => by
    have := seenR_len r (addS s c)
    have h2 := addS_len s c
    rw [show seenR s (c :: r) = seenR (addS s c) r from rfl]
    simp; omega
theorem l_nm4 {D : Cl} {rs : List Row} (hn : rs.length ≤ 11) (hr : ∀ r ∈ rs, r.l.length ≤ 49 ∧ ∀ x ∈ r.l, -24 ≤ x) :
    evP F (Go.Ab.W F) (JW F d46 []) d46 [] [1,1,1,1,1,0,1] [(2, b0), (3, bP D), (7, oB []), (8, oRs rs), (9, iI 0)] = some (.norm [(2, b0), (3, bP D), (7, oB (seenRs [] (rs.map (·.l)))), (8, oRs rs), (9, iI rs.length)]) := by
  have h1 := fun x hx => blk_fun (F := F) (d := d46) (lk := []) (p := [1,1,1,1,1,0,1,0,0]) (p0 := [1,1,1,1,1,0,1]) (id := 4) (by kernel_rfl) (st := fun (x : List Int × Nat) => [(2, b0), (3, bP D), (7, oB x.1), (8, oRs rs), (9, iI x.2)]) (I := fun x => x.2 ≤ rs.length ∧ x.1.length ≤ 49 * x.2) (μ := fun x => rs.length - x.2)
    (res := fun x => .norm [(2, b0), (3, bP D), (7, oB (seenRs x.1 ((rs.drop x.2).map (·.l)))), (8, oRs rs), (9, iI rs.length)])
    (fun x hx => by
      obtain ⟨u, i⟩ := x
      obtain ⟨hx1, hx2⟩ := hx
      dsimp only at hx1 hx2
      by_cases hi : i < rs.length
      · obtain ⟨r, hl1⟩ := at_lt hi
        have hd := drop_at hl1
        have hrr := hr r (List.mem_of_getElem? hl1)
        have hin := l_nm6 (D := D) (s := u) (by omega) hl1 (by omega) hrr.2
        have hsl := seenR_len r.l u
        refine .go (seenR u r.l, i + 1) (wpQ_way (q46_l4a _ _ D.lz (lits D.ls) D.le D.tz (rws D.ts) D.te D.cz (lits D.cs) D.ce u.isEmpty (bds (nbsF 0 u)) rs.isEmpty (rws rs) i _) ?_) ⟨hi, by dsimp only; omega⟩ (by dsimp only; omega) (by dsimp only; rw [hd]; rfl)
        refine condW_t (decide_eq_true (by rw [rws_len]; omega)) ⟨_, _, _, _, _, _, _, _, _, _, _, _, _, _, _, hin, ?_⟩
        rw [wr1 hi (by omega)]
      · have e1 : i = rs.length := by omega
        subst e1
        refine .stop (.exit 4 [(2, b0), (3, bP D), (7, oB u), (8, oRs rs), (9, iI rs.length)]) (wpQ_way (q46_l4a _ _ D.lz (lits D.ls) D.le D.tz (rws D.ts) D.te D.cz (lits D.cs) D.ce u.isEmpty (bds (nbsF 0 u)) rs.isEmpty (rws rs) rs.length _) (condW_f (decide_eq_false (by rw [rws_len]; omega)) rfl)) rfl ?_
        simp [blkO, seenRs]) x hx
  have h2 := h1 ([], 0) ⟨Nat.zero_le _, Nat.zero_le _⟩
  dsimp only at h2
  rw [List.drop_zero] at h2
  exact h2
theorem rows_c (c : Cl) : (rowsOf c).map (·.l) = c.c.rows := by
  simp [rowsOf, CC.rows, Cl.c, List.map_append, List.map_map, Function.comp_def, LitR.c]
theorem seenRs_len : ∀ (rs : List (List Int)) (s : List Int), (∀ r ∈ rs, r.length ≤ 49) → (seenRs s rs).length ≤ s.length + 49 * rs.length
  | [], s, _ => by simp [seenRs]
  | r :: rs, s, h => by
    have h1 := seenRs_len rs (seenR s r) (fun x hx => h x (by simp [hx]))
    have h2 := seenR_len r s
    have h3 := h r (by simp)
    rw [show seenRs s (r :: rs) = seenRs (seenR s r) rs from rfl]
    simp; omega
theorem w_norm {c : Cl} (h : ClN c) : C 46 [iC c] = some (oC (anCl (seenC c.c) (onceC' c)), [iC c]) := by
  refine wfn (lk := []) rfl rfl (fnW_way (q46 _ _ c.lz (lits c.ls) c.le c.tz (rws c.ts) c.te c.cz (lits c.cs) c.ce _) ?_)
  have hlen : ∀ r ∈ rowsOf c, Len r.l := fun r hr => by have := (h.rows r hr).1; unfold Len; omega
  have e1 := h.l5
  have e2 := h.t3
  have e3 := h.c3
  have k1 := w_rlits (ls := c.ls) (by omega) (fun l hl => hlen _ (in_rowsL hl)) c.lz c.le
  have k2 := w_rlits (ls := c.cs) (by omega) (fun l hl => hlen _ (in_rowsC hl)) c.cz c.ce
  have k3 := l_nm0 (c := c) (onceK LitR.c [] c.ls) (onceK LitR.c [] c.cs) (by omega) (fun r hr => hlen _ (in_rowsT hr))
  have ho := clN_once h
  have f1 := ho.l5
  have f2 := ho.t3
  have f3 := ho.c3
  have k4 := w_rrows (c := onceC' c) (by omega) (by omega) (by omega)
  have k5 := l_nm4 (D := onceC' c) (rs := rowsOf (onceC' c)) (by simp [rowsOf]; omega) ho.rows
  have hsn : seenRs [] ((rowsOf (onceC' c)).map (·.l)) = seenC c.c := by rw [rows_c, once_c]; rfl
  rw [hsn] at k5
  have hsl : (seenC c.c).length ≤ 100000 := by
    have := seenRs_len ((rowsOf (onceC' c)).map (·.l)) [] (fun r hr => by
      obtain ⟨x, hx, rfl⟩ := List.mem_map.1 hr
      exact (ho.rows x hx).1)
    rw [hsn] at this
    have hn : ((rowsOf (onceC' c)).map (·.l)).length ≤ 11 := by simp [rowsOf]; omega
    simp only [List.length_nil] at this
    omega
  have k6 := w_copyN (s := seenC c.c) hsl (c := onceC' c) (by omega) (by omega) (by omega) (fun r hr => ⟨by have := (ho.rows r hr).1; omega, fun x hx => by have := (ho.rows r hr).2 x hx; omega, fun x hx h0 => by
    rw [← hsn]
    exact mem_seenRs.2 (.inr ⟨h0, r.l, List.mem_map_of_mem hr, hx⟩)⟩) (seenC c.c).isEmpty []
  exact ⟨_, _, _, k1, _, _, _, k2, _, _, _, _, _, _, _, _, _, _, _, _, _, _, _, _, k3, _, _, _, k4, _, _, _, _, _, _, _, _, _, _, _, _, _, _, k5, _, _, _, _, _, _, _, _, k6, rfl⟩
end Go.Proofs.YtjhganbjbiihoaaDoor.Ab

/- Clauses: two clauses as they stand, variants, by the reference (the walk). For every input; no condition. -/
set_option linter.unusedVariables false
set_option linter.unusedSimpArgs false
set_option maxRecDepth 100000
namespace Go.Proofs.YtjhganbjbiihoaaDoor.Ab
open Go Go.Ab Go.Qu Go.Proofs
attribute [local simp] and_assoc
def eqAt {α β : Type} [DecidableEq β] (f : α → β) (a b : List α) (i : Nat) : Bool := match a[i]?, b[i]? with | some x, some y => decide (f x = f y) | _, _ => true
theorem eqAt_all {α β : Type} [DecidableEq β] (f : α → β) {a b : List α} (hl : a.length = b.length) (h : ∀ i, 0 ≤ i → i < a.length → eqAt f a b i = true) : a.map f = b.map f :=
  map_eq_at f hl (fun i x y hx hy => by
    have := h i (Nat.zero_le _) (lt_at hx)
    simpa [eqAt, hx, hy] using this)
theorem eqAt_no {α β : Type} [DecidableEq β] (f : α → β) {a b : List α} {i : Nat} (h : eqAt f a b i = false) : a.map f ≠ b.map f := fun e => by
  unfold eqAt at h
  have h5 : (a.map f)[i]? = (b.map f)[i]? := by rw [e]
  cases hx : a[i]? with
  | none => rw [hx] at h; simp at h
  | some x =>
    cases hy : b[i]? with
    | none => rw [hx, hy] at h; simp at h
    | some y =>
      rw [hx, hy] at h
      simp [hx, hy] at h5
      simp [h5] at h
theorem cc_iff {a b : Cl} (n1 : a.ls.length = b.ls.length) (n2 : a.ts.length = b.ts.length) (n3 : a.cs.length = b.cs.length) : a.c = b.c ↔ (rowsOf a).map (·.l) = (rowsOf b).map (·.l) ∧ a.ls.map (·.neg) = b.ls.map (·.neg) ∧ a.cs.map (·.neg) = b.cs.map (·.neg) := by
  have hL : ∀ (x y : List LitR), x.length = y.length → x.map (·.neg) = y.map (·.neg) → x.map (fun l => l.r.l) = y.map (fun l => l.r.l) → x.map LitR.c = y.map LitR.c := fun x y hl h1 h2 =>
    map_eq_at LitR.c hl (fun i u v hu hv => by
      have k1 : (x.map (·.neg))[i]? = (y.map (·.neg))[i]? := by rw [h1]
      have k2 : (x.map (fun l => l.r.l))[i]? = (y.map (fun l => l.r.l))[i]? := by rw [h2]
      simp [hu, hv] at k1 k2
      simp [LitR.c, k1, k2])
  have hR : ∀ (x : Cl), (rowsOf x).map (·.l) = (x.ls.map (fun l => l.r.l) ++ x.ts.map (fun r : Row => r.l)) ++ x.cs.map (fun l => l.r.l) := fun x => by
    simp [rowsOf, List.map_append, List.map_map, Function.comp_def]
  constructor
  · intro h
    obtain ⟨h1, h2, h3⟩ := cl_ext.1 h
    refine ⟨by rw [rows_c, rows_c, h], ?_, ?_⟩
    · have := congrArg (List.map Prod.fst) h1
      simpa [List.map_map, Function.comp_def, LitR.c] using this
    · have := congrArg (List.map Prod.fst) h3
      simpa [List.map_map, Function.comp_def, LitR.c] using this
  · rintro ⟨h1, h2, h3⟩
    rw [hR, hR] at h1
    obtain ⟨h4, h5⟩ := List.append_inj h1 (by simp [n1, n2])
    obtain ⟨h6, h7⟩ := List.append_inj h4 (by simp [n1])
    exact cl_ext.2 ⟨hL _ _ n1 h2 h6, h7, hL _ _ n3 h3 h5⟩
theorem w_rsame {a : Cl} (h : ClLen a) (b : Cl) (hb1 : b.ls.length ≤ 1000) (hb2 : b.ts.length ≤ 1000) (hb3 : b.cs.length ≤ 1000) : C 45 [iC a, iC b] = some (iB (decide (a.c = b.c)), [iC a, iC b]) := by
  refine wfn (lk := []) rfl rfl (fnW_way (q45 _ _ a.lz (lits a.ls) a.le a.tz (rws a.ts) a.te a.cz (lits a.cs) a.ce b.lz (lits b.ls) b.le b.tz (rws b.ts) b.te b.cz (lits b.cs) b.ce _) ?_)
  have a1 := h.l5
  have a2 := h.t3
  have a3 := h.c3
  have ka := w_rrows (c := a) a1 a2 a3
  have kb := w_rrows (c := b) hb1 hb2 hb3
  refine ⟨_, _, _, ka, _, _, _, kb, ?_⟩
  rw [lits_len, lits_len, lits_len, lits_len, rws_len, rws_len]
  by_cases n1 : a.ls.length = b.ls.length
  rotate_left
  · have hne : ¬ a.c = b.c := fun e => n1 (by have := congrArg List.length (cl_ext.1 e).1; simpa using this)
    rw [decide_eq_false hne]
    exact condW_t (by simp; omega) rfl
  refine condW_f (by simp; omega) ?_
  by_cases n2 : a.ts.length = b.ts.length
  rotate_left
  · have hne : ¬ a.c = b.c := fun e => n2 (by have := congrArg List.length (cl_ext.1 e).2.1; simpa using this)
    rw [decide_eq_false hne]
    exact condW_t (by simp; omega) rfl
  refine condW_f (by simp; omega) ?_
  by_cases n3 : a.cs.length = b.cs.length
  rotate_left
  · have hne : ¬ a.c = b.c := fun e => n3 (by have := congrArg List.length (cl_ext.1 e).2.2; simpa using this)
    rw [decide_eq_false hne]
    exact condW_t (by simp; omega) rfl
  refine condW_f (by simp; omega) ?_
  have hiff := cc_iff n1 n2 n3
  have nr : (rowsOf a).length = (rowsOf b).length := by simp [rowsOf]; omega
  have nr2 : (rowsOf a).length ≤ 3000 := by simp [rowsOf]; omega
  have hlr : ∀ r ∈ rowsOf a, Len r.l := fun r hr => by
    simp only [rowsOf, List.mem_append, List.mem_map] at hr
    rcases hr with (⟨l, hl, rfl⟩ | hr) | ⟨l, hl, rfl⟩
    · exact h.ls l hl
    · exact h.ts r hr
    · exact h.cs l hl
  have turn0 : ∀ (i : Nat) (o : Out), i < (rowsOf a).length → o = (if eqAt (fun r : Row => r.l) (rowsOf a) (rowsOf b) i = true then .norm [(2, bC a), (3, bC b), (5, oRs (rowsOf a)), (6, oRs (rowsOf b)), (7, iI (i + 1 : Nat))] else .ret [(4, iB false)]) →
      evP F (Go.Ab.W F) (JW F d45 []) d45 [] [1,1,1,0,1,0,0] [(2, bC a), (3, bC b), (5, oRs (rowsOf a)), (6, oRs (rowsOf b)), (7, iI i)] = some o := by
    intro i o hi ho
    obtain ⟨x, hx⟩ := at_lt hi
    obtain ⟨y, hy⟩ := at_lt (l := rowsOf b) (i := i) (by omega)
    have hs := w_same (hlr x (List.mem_of_getElem? hx)) y.l x.z y.z x.e y.e
    have hi0 : decide ((0 : Int) ≤ (i : Int)) = true := decide_eq_true (by omega)
    have he : eqAt (fun r : Row => r.l) (rowsOf a) (rowsOf b) i = decide (x.l = y.l) := by simp [eqAt, hx, hy]
    rw [he] at ho
    refine wpQ_way (q45_l0a _ _ a.lz (lits a.ls) a.le a.tz (rws a.ts) a.te a.cz (lits a.cs) a.ce b.lz (lits b.ls) b.le b.tz (rws b.ts) b.te b.cz (lits b.cs) b.ce _ (rws (rowsOf a)) _ (rws (rowsOf b)) i _) ?_
    refine condW_t (decide_eq_true (by rw [rws_len]; omega)) (condW_t hi0 ?_)
    rw [Int.toNat_natCast]
    refine ⟨_, rws_at hx, _, _, _, rws_at hx, condW_t hi0 ⟨_, rws_at hy, _, _, _, rws_at hy, _, _, _, hs, ?_⟩⟩
    rw [wr1 hi (by omega)]
    cases hd : decide (x.l = y.l) with
    | true => rw [hd] at ho; exact condW_t rfl ho.symm
    | false => rw [hd] at ho; exact condW_f rfl ho.symm
  have turn2 : ∀ (i : Nat) (o : Out), i < a.ls.length → o = (if eqAt (fun l : LitR => l.neg) a.ls b.ls i = true then .norm [(2, bC a), (3, bC b), (8, iI (i + 1 : Nat))] else .ret [(4, iB false)]) →
      evP F (Go.Ab.W F) (JW F d45 []) d45 [] [1,1,1,1,0,1,0,0] [(2, bC a), (3, bC b), (8, iI i)] = some o := by
    intro i o hi ho
    obtain ⟨x, hx⟩ := at_lt hi
    obtain ⟨y, hy⟩ := at_lt (l := b.ls) (i := i) (by omega)
    have hi0 : decide ((0 : Int) ≤ (i : Int)) = true := decide_eq_true (by omega)
    have he : eqAt (fun l : LitR => l.neg) a.ls b.ls i = decide (x.neg = y.neg) := by simp [eqAt, hx, hy]
    rw [he] at ho
    refine wpQ_way (q45_l2b _ _ a.lz (lits a.ls) a.le a.tz (rws a.ts) a.te a.cz (lits a.cs) a.ce b.lz (lits b.ls) b.le b.tz (rws b.ts) b.te b.cz (lits b.cs) b.ce i _) ?_
    refine condW_t (decide_eq_true (by rw [lits_len]; omega)) (condW_t hi0 ?_)
    rw [Int.toNat_natCast, wr1 hi (by omega)]
    refine ⟨_, _, _, _, lits_at hx, ?_⟩
    cases hxn : x.neg with
    | true =>
      refine condW_t rfl (condW_t hi0 ⟨_, _, _, _, lits_at hy, ?_⟩)
      cases hyn : y.neg with
      | true => rw [hxn, hyn] at ho; exact condW_t rfl ho.symm
      | false => rw [hxn, hyn] at ho; exact condW_f rfl ho.symm
    | false =>
      refine condW_f rfl (condW_t hi0 ⟨_, _, _, _, lits_at hy, ?_⟩)
      cases hyn : y.neg with
      | true => rw [hxn, hyn] at ho; exact condW_t rfl ho.symm
      | false => rw [hxn, hyn] at ho; exact condW_f rfl ho.symm
  have turn4 : ∀ (i : Nat) (o : Out), i < a.cs.length → o = (if eqAt (fun l : LitR => l.neg) a.cs b.cs i = true then .norm [(2, bC a), (3, bC b), (9, iI (i + 1 : Nat))] else .ret [(4, iB false)]) →
      evP F (Go.Ab.W F) (JW F d45 []) d45 [] [1,1,1,1,1,0,1,0,0] [(2, bC a), (3, bC b), (9, iI i)] = some o := by
    intro i o hi ho
    obtain ⟨x, hx⟩ := at_lt hi
    obtain ⟨y, hy⟩ := at_lt (l := b.cs) (i := i) (by omega)
    have hi0 : decide ((0 : Int) ≤ (i : Int)) = true := decide_eq_true (by omega)
    have he : eqAt (fun l : LitR => l.neg) a.cs b.cs i = decide (x.neg = y.neg) := by simp [eqAt, hx, hy]
    rw [he] at ho
    refine wpQ_way (q45_l4b _ _ a.lz (lits a.ls) a.le a.tz (rws a.ts) a.te a.cz (lits a.cs) a.ce b.lz (lits b.ls) b.le b.tz (rws b.ts) b.te b.cz (lits b.cs) b.ce i _) ?_
    refine condW_t (decide_eq_true (by rw [lits_len]; omega)) (condW_t hi0 ?_)
    rw [Int.toNat_natCast, wr1 hi (by omega)]
    refine ⟨_, _, _, _, lits_at hx, ?_⟩
    cases hxn : x.neg with
    | true =>
      refine condW_t rfl (condW_t hi0 ⟨_, _, _, _, lits_at hy, ?_⟩)
      cases hyn : y.neg with
      | true => rw [hxn, hyn] at ho; exact condW_t rfl ho.symm
      | false => rw [hxn, hyn] at ho; exact condW_f rfl ho.symm
    | false =>
      refine condW_f rfl (condW_t hi0 ⟨_, _, _, _, lits_at hy, ?_⟩)
      cases hyn : y.neg with
      | true => rw [hxn, hyn] at ho; exact condW_t rfl ho.symm
      | false => rw [hxn, hyn] at ho; exact condW_f rfl ho.symm
  rcases blk_all (F := F) (d := d45) (lk := []) (p := [1,1,1,0,1,0,0]) (p0 := [1,1,1,0,1]) (by kernel_rfl) (n := (rowsOf a).length) (id := 0) (st := fun i => [(2, bC a), (3, bC b), (5, oRs (rowsOf a)), (6, oRs (rowsOf b)), (7, iI i)]) (q := fun i => eqAt (fun r : Row => r.l) (rowsOf a) (rowsOf b) i) (rt := [(4, iB false)]) (e := [(2, bC a), (3, bC b), (5, oRs (rowsOf a)), (6, oRs (rowsOf b)), (7, iI (rowsOf a).length)])
    (fun i hi hq => turn0 i _ hi (by rw [if_pos hq]))
    (fun i hi hq => turn0 i _ hi (by rw [if_neg (by rw [hq]; simp)]))
    (wpQ_way (q45_l0a _ _ a.lz (lits a.ls) a.le a.tz (rws a.ts) a.te a.cz (lits a.cs) a.ce b.lz (lits b.ls) b.le b.tz (rws b.ts) b.te b.cz (lits b.cs) b.ce _ (rws (rowsOf a)) _ (rws (rowsOf b)) (rowsOf a).length _) (condW_f (decide_eq_false (by rw [rws_len]; omega)) rfl)) 0 (Nat.zero_le _) with ⟨h1, g1⟩ | ⟨⟨i, _, hi, h1⟩, g1⟩
  rotate_left
  · rw [decide_eq_false (fun e => eqAt_no _ h1 (hiff.1 e).1)]
    exact .inl ⟨_, g1, rfl⟩
  have hrows := eqAt_all (fun r : Row => r.l) nr h1
  rcases blk_all (F := F) (d := d45) (lk := []) (p := [1,1,1,1,0,1,0,0]) (p0 := [1,1,1,1,0,1]) (by kernel_rfl) (n := a.ls.length) (id := 2) (st := fun i => [(2, bC a), (3, bC b), (8, iI i)]) (q := fun i => eqAt (fun l : LitR => l.neg) a.ls b.ls i) (rt := [(4, iB false)]) (e := [(2, bC a), (3, bC b), (8, iI a.ls.length)])
    (fun i hi hq => turn2 i _ hi (by rw [if_pos hq]))
    (fun i hi hq => turn2 i _ hi (by rw [if_neg (by rw [hq]; simp)]))
    (wpQ_way (q45_l2b _ _ a.lz (lits a.ls) a.le a.tz (rws a.ts) a.te a.cz (lits a.cs) a.ce b.lz (lits b.ls) b.le b.tz (rws b.ts) b.te b.cz (lits b.cs) b.ce a.ls.length _) (condW_f (decide_eq_false (by rw [lits_len]; omega)) rfl)) 0 (Nat.zero_le _) with ⟨h2, g2⟩ | ⟨⟨i, _, hi, h2⟩, g2⟩
  rotate_left
  · rw [decide_eq_false (fun e => eqAt_no _ h2 (hiff.1 e).2.1)]
    exact .inr ⟨_, _, _, _, _, _, _, _, _, _, _, _, _, _, _, _, _, _, _, _, _, _, _, g1, .inl ⟨_, g2, rfl⟩⟩
  have hneg := eqAt_all (fun l : LitR => l.neg) n1 h2
  rcases blk_all (F := F) (d := d45) (lk := []) (p := [1,1,1,1,1,0,1,0,0]) (p0 := [1,1,1,1,1,0,1]) (by kernel_rfl) (n := a.cs.length) (id := 4) (st := fun i => [(2, bC a), (3, bC b), (9, iI i)]) (q := fun i => eqAt (fun l : LitR => l.neg) a.cs b.cs i) (rt := [(4, iB false)]) (e := [(2, bC a), (3, bC b), (9, iI a.cs.length)])
    (fun i hi hq => turn4 i _ hi (by rw [if_pos hq]))
    (fun i hi hq => turn4 i _ hi (by rw [if_neg (by rw [hq]; simp)]))
    (wpQ_way (q45_l4b _ _ a.lz (lits a.ls) a.le a.tz (rws a.ts) a.te a.cz (lits a.cs) a.ce b.lz (lits b.ls) b.le b.tz (rws b.ts) b.te b.cz (lits b.cs) b.ce a.cs.length _) (condW_f (decide_eq_false (by rw [lits_len]; omega)) rfl)) 0 (Nat.zero_le _) with ⟨h3, g3⟩ | ⟨⟨i, _, hi, h3⟩, g3⟩
  rotate_left
  · rw [decide_eq_false (fun e => eqAt_no _ h3 (hiff.1 e).2.2)]
    exact .inr ⟨_, _, _, _, _, _, _, _, _, _, _, _, _, _, _, _, _, _, _, _, _, _, _, g1, .inr ⟨_, _, _, _, _, _, _, _, _, _, _, _, _, _, _, _, _, _, _, g2, .inl ⟨_, g3, rfl⟩⟩⟩
  have hcs := eqAt_all (fun l : LitR => l.neg) n3 h3
  rw [decide_eq_true (hiff.2 ⟨hrows, hneg, hcs⟩)]
  exact .inr ⟨_, _, _, _, _, _, _, _, _, _, _, _, _, _, _, _, _, _, _, _, _, _, _, g1, .inr ⟨_, _, _, _, _, _, _, _, _, _, _, _, _, _, _, _, _, _, _, g2, .inr ⟨_, _, _, _, _, _, _, _, _, _, _, _, _, _, _, _, _, _, _, g3, rfl⟩⟩⟩
theorem an_once (c : Cl) : (anCl (seenC c.c) (onceC' c)).c = normC c.c := by
  rw [an_c, once_c]; rfl
theorem an_len {c : Cl} (h : ClN c) (s : List Int) : ClLen (anCl s c) := by
  have e1 := h.l5
  have e2 := h.t3
  have e3 := h.c3
  have hl : ∀ r ∈ rowsOf c, Len (renR s r.l) := fun r hr => by
    have := (h.rows r hr).1
    unfold Len; simp [renR]; omega
  refine ⟨by simp [anCl]; omega, by simp [anCl]; omega, by simp [anCl]; omega, fun l hl' => ?_, fun r hr => ?_, fun l hl' => ?_⟩
  · obtain ⟨m, hm, rfl⟩ := List.mem_map.1 hl'
    exact hl _ (in_rowsL hm)
  · obtain ⟨m, hm, rfl⟩ := List.mem_map.1 hr
    exact hl _ (in_rowsT hm)
  · obtain ⟨m, hm, rfl⟩ := List.mem_map.1 hl'
    exact hl _ (in_rowsC hm)
theorem w_rvariant (z : Bool) (g : List Sym) (e : List D) (c d : Cl) : C 17 [iG z g e, iC c, iC d] = some (.tup [iB ((clB g c && clB g d) && decide (normC c.c = normC d.c)), iI (if (clB g c && clB g d) = true then 0 else 800)], [iG z g e, iC c, iC d]) := by
  refine wfn (lk := []) rfl rfl (fnW_way (q17 _ _ z (syms g) e c.lz (lits c.ls) c.le c.tz (rws c.ts) c.te c.cz (lits c.cs) c.ce d.lz (lits d.ls) d.le d.tz (rws d.ts) d.te d.cz (lits d.cs) d.ce _) ?_)
  refine ⟨_, _, _, w_rclmay z g e c, ?_⟩
  cases h : clB g c with
  | false => exact condW_f rfl rfl
  | true =>
  refine condW_t rfl ⟨_, _, _, w_rclmay z g e d, ?_⟩
  cases h' : clB g d with
  | false => exact condW_f rfl rfl
  | true =>
  have h1 := clN_of h
  have h2 := clN_of h'
  have k2 := an_len (clN_once h2) (seenC d.c)
  have hs := w_rsame (an_len (clN_once h1) (seenC c.c)) (anCl (seenC d.c) (onceC' d)) k2.l5 k2.t3 k2.c3
  rw [an_once, an_once] at hs
  refine condW_t rfl ⟨_, _, _, _, _, _, _, w_norm h1, _, _, _, _, _, _, _, w_norm h2, _, _, _, hs, ?_⟩
  cases k : decide (normC c.c = normC d.c)
  · exact condW_f rfl rfl
  · exact condW_t rfl rfl
end Go.Proofs.YtjhganbjbiihoaaDoor.Ab
