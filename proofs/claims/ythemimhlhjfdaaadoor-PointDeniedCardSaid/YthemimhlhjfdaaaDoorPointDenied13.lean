/- Literals, clauses: what the program's and the reference's functions hand back. For every input; no condition. -/
import Derived.Test.YthemimhlhjfdaaaDoorPointDenied0
import Derived.Test.YthemimhlhjfdaaaDoorPointDenied1
import Derived.Test.YthemimhlhjfdaaaDoorPointDenied2
import Derived.Test.YthemimhlhjfdaaaDoorPointDenied3
import Derived.Test.YthemimhlhjfdaaaDoorPointDenied4
import Derived.Test.YthemimhlhjfdaaaDoorPointDenied5
import Derived.Test.YthemimhlhjfdaaaDoorPointDenied6
import Derived.Test.YthemimhlhjfdaaaDoorPointDenied7
import Derived.Test.YthemimhlhjfdaaaDoorPointDenied8
import Derived.Test.YthemimhlhjfdaaaDoorPointDenied9
import Derived.Test.YthemimhlhjfdaaaDoorPointDenied10
import Derived.Test.YthemimhlhjfdaaaDoorPointDenied11
import Derived.Test.YthemimhlhjfdaaaDoorPointDenied12
set_option linter.unusedVariables false
set_option linter.unusedSimpArgs false
set_option maxRecDepth 100000
namespace Go.Proofs.YthemimhlhjfdaaaDoor.Ab
open Go Go.Ab Go.Qu Go.Proofs
attribute [local simp] and_assoc
theorem w_litmay (z : Bool) (g : List Sym) (e : List D) (b z' : Bool) (a : List Int) (e' : List D) : C 55 [iG z g e, iLit b z' a e'] = some (iB (atomB g a), [iG z g e, iLit b z' a e']) := by
  refine wfn (lk := []) rfl rfl (fnW_way (q55 _ _ z (syms g) e b z' (ints a) e' _) ?_)
  have h1 := w_isatom z z' g e e' a
  cases h : atomB g a <;> simp [-Bool.exists_bool, h1, h]
theorem w_litsmay (z z' : Bool) (g : List Sym) (e e' : List D) {ls : List LitR} (hl : ls.length ≤ 1000) : C 45 [iG z g e, iL z' ls e'] = some (.tup [iI (if litsB g ls = true then (lenL ls : Int) else 0), iB (litsB g ls)], [iG z g e, iL z' ls e']) := by
  refine wfn (lk := []) rfl rfl (fnW_way (q45 _ _ z (syms g) e z' (lits ls) e' _) ?_)
  have h1 := fun x hx => blk_fun (F := F) (d := d45) (lk := []) (p := [1,1,0,1,0,0]) (p0 := [1,1,0,1]) (id := 0) (by kernel_rfl) (st := fun (x : Nat × Nat) => [(0, iG z g e), (6, iI x.2), (9, iL z' ls e'), (10, iI ls.length), (11, iI x.1)]) (I := fun x => x.1 ≤ ls.length ∧ x.2 ≤ 49 * x.1) (μ := fun x => ls.length - x.1)
    (res := fun x => if litsB g (ls.drop x.1) = true then .norm [(0, iG z g e), (6, iI (x.2 + lenL (ls.drop x.1) : Nat)), (9, iL z' ls e'), (10, iI ls.length), (11, iI ls.length)] else .ret [(4, iI 0), (5, iB false)])
    (fun x hx => by
      obtain ⟨i, k⟩ := x
      obtain ⟨hx1, hx2⟩ := hx
      dsimp only at hx1 hx2
      by_cases hi : i < ls.length
      · obtain ⟨l, hl1⟩ := at_lt hi
        have hd : ls.drop i = l :: ls.drop (i + 1) := by
          rw [List.drop_eq_getElem_cons hi]
          rw [List.getElem?_eq_getElem hi] at hl1
          cases hl1; rfl
        have hm := w_litmay z g e l.neg l.r.z l.r.l l.r.e
        have hi' : (i : Int) < ls.length := by omega
        cases hb : atomB g l.r.l
        · refine .stop (.ret [(4, iI 0), (5, iB false)]) (wpQ_way (q45_l0a _ _ z (syms g) e k z' (lits ls) e' _ i _) ?_) rfl ?_
          · simp [-Bool.exists_bool, -getElem?_pos, hi', lits_at hl1, hm, hb]
          · dsimp only; rw [hd]; simp [litsB, hb, blkO]
        · have h49 := (atom_codes hb).1
          have hw : IntKind.wrap .i64 ((k : Int) + (l.r.l.length : Int)) = ((k + l.r.l.length : Nat) : Int) := by rw [wr _ (by omega) (by omega)]; omega
          refine .go (i + 1, k + l.r.l.length) (wpQ_way (q45_l0a _ _ z (syms g) e k z' (lits ls) e' _ i _) ?_) ⟨by dsimp only; omega, by dsimp only; omega⟩ (by dsimp only; omega) ?_
          · simp [-Bool.exists_bool, -getElem?_pos, -Int.natCast_add, hi', lits_at hl1, hm, hb, ints_len, hw, wr1 hi (by omega)]
          · dsimp only; rw [hd]
            have h3 : litsB g (l :: ls.drop (i + 1)) = litsB g (ls.drop (i + 1)) := by simp [litsB, hb]
            rw [h3, lenL, ← Nat.add_assoc]
      · have e1 : i = ls.length := by omega
        subst e1
        refine .stop (.exit 0 [(0, iG z g e), (6, iI k), (9, iL z' ls e'), (10, iI ls.length), (11, iI ls.length)]) (wpQ_way (q45_l0a _ _ z (syms g) e k z' (lits ls) e' _ _ _) (by simp)) rfl ?_
        simp [blkO, litsB, lenL]) x hx
  have h2 : evP F (Go.Ab.W F) (JW F d45 []) d45 [] [1,1,0,1] [(0, iG z g e), (6, iI 0), (9, iL z' ls e'), (10, iI ls.length), (11, iI 0)] = _ := h1 (0, 0) ⟨Nat.zero_le _, Nat.le_refl _⟩
  rw [List.drop_zero, Nat.zero_add] at h2
  cases h : litsB g ls
  · rw [h] at h2
    simp only [Bool.false_eq_true, if_false] at h2
    simp [-Bool.exists_bool, lits_len, h2]
  · rw [h] at h2
    simp only [if_true] at h2
    simp [-Bool.exists_bool, lits_len, h2]
theorem w_rowsmay (z z' : Bool) (g : List Sym) (e e' : List D) {ts : List Row} (hl : ts.length ≤ 1000) : C 46 [iG z g e, iR z' ts e'] = some (.tup [iI (if rowsB g ts = true then (lenR ts : Int) else 0), iB (rowsB g ts)], [iG z g e, iR z' ts e']) := by
  refine wfn (lk := []) rfl rfl (fnW_way (q46 _ _ z (syms g) e z' (rws ts) e' _) ?_)
  cases ts with
  | nil =>
    have h2 : evP F (Go.Ab.W F) (JW F d46 []) d46 [] [1,1,0,1] [(0, iG z g e), (6, iI 0), (7, iI 0), (12, iR z' [] e'), (13, iI 0), (14, iI 0)] = some (.norm [(0, iG z g e), (6, iI 0), (7, iI 0), (12, iR z' [] e'), (13, iI 0), (14, iI 0)]) :=
      blk_fun (F := F) (d := d46) (lk := []) (p := [1,1,0,1,0,0]) (p0 := [1,1,0,1]) (id := 0) (by kernel_rfl) (st := fun (_ : Unit) => [(0, iG z g e), (6, iI 0), (7, iI 0), (12, iR z' [] e'), (13, iI 0), (14, iI 0)]) (I := fun _ => True) (μ := fun _ => 0) (res := fun _ => .norm [(0, iG z g e), (6, iI 0), (7, iI 0), (12, iR z' [] e'), (13, iI 0), (14, iI 0)])
        (fun _ _ => .stop (.exit 0 [(0, iG z g e), (6, iI 0), (7, iI 0), (12, iR z' [] e'), (13, iI 0), (14, iI 0)]) (wpQ_way (q46_l0a _ _ z (syms g) e 0 0 z' (rws []) e' _ _ _) (by simp)) rfl (by simp [blkO])) () trivial
    simp only [iR, rws_nil] at h2
    simp [-Bool.exists_bool, rws_nil, rowsB, lenR, h2]
  | cons r0 tl =>
    have hsp : ∀ n : Nat, n = termsN g r0.l → rowsB g (r0 :: tl) = rowsF g n (r0 :: tl) := fun n h => by rw [h]; rfl
    have h1 := fun x hx => blk_fun (F := F) (d := d46) (lk := []) (p := [1,1,0,1,0,0]) (p0 := [1,1,0,1]) (id := 0) (by kernel_rfl) (st := fun (x : Nat × Nat) => [(0, iG z g e), (6, iI x.2), (7, iI (if x.1 = 0 then 0 else (termsN g r0.l : Int))), (12, iR z' (r0 :: tl) e'), (13, iI (r0 :: tl).length), (14, iI x.1)]) (I := fun x => x.1 ≤ (r0 :: tl).length ∧ x.2 ≤ 48 * x.1) (μ := fun x => (r0 :: tl).length - x.1)
      (res := fun x => if rowsF g (termsN g r0.l) ((r0 :: tl).drop x.1) = true then .norm [(0, iG z g e), (6, iI (x.2 + lenR ((r0 :: tl).drop x.1) : Nat)), (7, iI (termsN g r0.l)), (12, iR z' (r0 :: tl) e'), (13, iI (r0 :: tl).length), (14, iI (r0 :: tl).length)] else .ret [(4, iI 0), (5, iB false)])
      (fun x hx => by
        obtain ⟨i, k⟩ := x
        obtain ⟨hx1, hx2⟩ := hx
        dsimp only at hx1 hx2
        by_cases hi : i < (r0 :: tl).length
        · obtain ⟨r, hr1⟩ := at_lt hi
          have hd : (r0 :: tl).drop i = r :: (r0 :: tl).drop (i + 1) := by
            rw [List.drop_eq_getElem_cons hi]
            rw [List.getElem?_eq_getElem hi] at hr1
            cases hr1; rfl
          have h0r : i = 0 → r = r0 := fun h => by subst h; simp at hr1; exact hr1.symm
          have hm := w_row z r.z g e r.e r.l
          have hi' : (i : Int) < (r0 :: tl).length := by omega
          generalize r0 :: tl = ts at *
          cases hb : rowB g r.l
          · refine .stop (.ret [(4, iI 0), (5, iB false)]) (wpQ_way (q46_l0a _ _ z (syms g) e k _ z' (rws ts) e' _ i _) ?_) rfl ?_
            · rw [hb] at hm
              simp [-Bool.exists_bool, -getElem?_pos, hi', rws_at hr1, hm]
            · dsimp only; rw [hd]; simp [rowsF, hb, blkO]
          · have h48 := rowB_len hb
            rw [hb] at hm
            by_cases hn : termsN g r.l = termsN g r0.l
            · have hw : IntKind.wrap .i64 ((k : Int) + (r.l.length : Int)) = ((k + r.l.length : Nat) : Int) := by rw [wr _ (by omega) (by omega)]; omega
              refine .go (i + 1, k + r.l.length) (wpQ_way (q46_l0a _ _ z (syms g) e k _ z' (rws ts) e' _ i _) ?_) ⟨by dsimp only; omega, by dsimp only; omega⟩ (by dsimp only; omega) ?_
              · by_cases h0 : i = 0
                · simp [-Bool.exists_bool, -getElem?_pos, -Int.natCast_add, hi', rws_at hr1, hm, ints_len, hw, wr1 hi (by omega), hn, h0] at hr1 ⊢
                  subst h0
                  simp [-Bool.exists_bool, -getElem?_pos, -Int.natCast_add, hi', rws_at hr1, hm, ints_len, hw, wr1 hi (by omega), hn]
                  exact ⟨hi, wr _ (by omega) (by omega)⟩
                · simp [-Bool.exists_bool, -getElem?_pos, -Int.natCast_add, hi', rws_at hr1, hm, ints_len, hw, wr1 hi (by omega), hn, h0]
              · dsimp only; rw [hd]
                have h3 : rowsF g (termsN g r0.l) (r :: ts.drop (i + 1)) = rowsF g (termsN g r0.l) (ts.drop (i + 1)) := by simp [rowsF, hb, hn]
                rw [h3, lenR, ← Nat.add_assoc]
            · have h0 : ¬ i = 0 := fun h => hn (by rw [h0r h])
              have hn' : ¬ (termsN g r.l : Int) = termsN g r0.l := by omega
              refine .stop (.ret [(4, iI 0), (5, iB false)]) (wpQ_way (q46_l0a _ _ z (syms g) e k _ z' (rws ts) e' _ i _) ?_) rfl ?_
              · simp [-Bool.exists_bool, -getElem?_pos, hi', rws_at hr1, hm, h0, hn']
              · dsimp only; rw [hd]; simp [rowsF, hb, hn, blkO]
        · have e1 : i = (r0 :: tl).length := by omega
          have h0 : ¬ i = 0 := by simp at e1; omega
          refine .stop (.exit 0 [(0, iG z g e), (6, iI k), (7, iI (termsN g r0.l)), (12, iR z' (r0 :: tl) e'), (13, iI (r0 :: tl).length), (14, iI (r0 :: tl).length)]) (wpQ_way (q46_l0a _ _ z (syms g) e k _ z' (rws (r0 :: tl)) e' _ _ _) ?_) rfl ?_
          · subst e1; simp
          · subst e1; simp [blkO, rowsF, lenR]) x hx
    have h2 : evP F (Go.Ab.W F) (JW F d46 []) d46 [] [1,1,0,1] [(0, iG z g e), (6, iI 0), (7, iI 0), (12, iR z' (r0 :: tl) e'), (13, iI (r0 :: tl).length), (14, iI 0)] = _ := h1 (0, 0) ⟨Nat.zero_le _, Nat.le_refl _⟩
    rw [List.drop_zero, Nat.zero_add, ← hsp _ rfl] at h2
    generalize r0 :: tl = ts at *
    cases h : rowsB g ts
    · rw [h] at h2
      simp only [Bool.false_eq_true, if_false] at h2
      simp [-Bool.exists_bool, rws_len, h2]
    · rw [h] at h2
      simp only [if_true] at h2
      simp [-Bool.exists_bool, rws_len, h2]
theorem w_clmay (z : Bool) (g : List Sym) (e : List D) (c : Cl) : C 36 [iG z g e, iC c] = some (iB (clB g c), [iG z g e, iC c]) := by
  refine wfn (lk := []) rfl rfl (fnW_way (q36 _ _ z (syms g) e c.lz (lits c.ls) c.le c.tz (rws c.ts) c.te c.cz (lits c.cs) c.ce _) ?_)
  have h1 := w_may z g e
  cases hg : sigB g
  · simp [-Bool.exists_bool, h1, hg, clB]
  by_cases l1 : c.ls.length ≤ 5
  rotate_left
  · have l1' : 5 < (c.ls.length : Int) := by omega
    simp [-Bool.exists_bool, h1, hg, clB, lits_len, l1, l1']
  by_cases l2 : c.ts.length ≤ 3
  rotate_left
  · have l1' : ¬ 5 < (c.ls.length : Int) := by omega
    have l2' : 3 < (c.ts.length : Int) := by omega
    simp [-Bool.exists_bool, h1, hg, clB, lits_len, rws_len, l1, l1', l2, l2']
  by_cases l3 : c.cs.length ≤ 3
  rotate_left
  · have l1' : ¬ 5 < (c.ls.length : Int) := by omega
    have l2' : ¬ 3 < (c.ts.length : Int) := by omega
    have l3' : 3 < (c.cs.length : Int) := by omega
    simp [-Bool.exists_bool, h1, hg, clB, lits_len, rws_len, l1, l1', l2, l2', l3, l3']
  have l1' : ¬ 5 < (c.ls.length : Int) := by omega
  have l2' : ¬ 3 < (c.ts.length : Int) := by omega
  have l3' : ¬ 3 < (c.cs.length : Int) := by omega
  have h2 := w_litsmay z c.lz g e c.le (ls := c.ls) (by omega)
  have h3 := w_rowsmay z c.tz g e c.te (ts := c.ts) (by omega)
  have h4 := w_litsmay z c.cz g e c.ce (ls := c.cs) (by omega)
  cases b1 : litsB g c.ls
  · rw [b1] at h2
    cases b2 : rowsB g c.ts <;> cases b3 : litsB g c.cs <;> simp [-Bool.exists_bool, h1, hg, clB, lits_len, rws_len, l1, l1', l2, l2', l3, l3', h2, h3, h4, b1, b2, b3]
  cases b2 : rowsB g c.ts
  · rw [b2] at h3
    cases b3 : litsB g c.cs <;> simp [-Bool.exists_bool, h1, hg, clB, lits_len, rws_len, l1, l1', l2, l2', l3, l3', h2, h3, h4, b1, b2, b3]
  cases b3 : litsB g c.cs
  · simp [-Bool.exists_bool, h1, hg, clB, lits_len, rws_len, l1, l1', l2, l2', l3, l3', h2, h3, h4, b1, b2, b3]
  have k1 := lenL_le b1
  have k3 := lenL_le b3
  have k2 : lenR c.ts ≤ 48 * c.ts.length := by
    cases ht : c.ts with
    | nil => simp [lenR]
    | cons r tl => rw [ht] at b2; exact lenR_le b2
  rw [b1] at h2; rw [b2] at h3; rw [b3] at h4
  simp only [if_true] at h2 h3 h4
  have hw : IntKind.wrap .i64 (IntKind.wrap .i64 ((lenL c.ls : Int) + (lenR c.ts : Int)) + (lenL c.cs : Int)) = ((lenL c.ls + lenR c.ts + lenL c.cs : Nat) : Int) := by
    rw [wr ((lenL c.ls : Int) + (lenR c.ts : Int)) (by omega) (by omega), wr _ (by omega) (by omega)]; omega
  by_cases k : lenL c.ls + lenR c.ts + lenL c.cs ≤ 240
  · have k' : ((lenL c.ls + lenR c.ts + lenL c.cs : Nat) : Int) ≤ 240 := by omega
    simp [-Bool.exists_bool, -Int.natCast_add, h1, hg, clB, lits_len, rws_len, l1, l1', l2, l2', l3, l3', h2, h3, h4, b1, b2, b3, hw, k, k']
  · have k' : ¬ ((lenL c.ls + lenR c.ts + lenL c.cs : Nat) : Int) ≤ 240 := by omega
    simp [-Bool.exists_bool, -Int.natCast_add, h1, hg, clB, lits_len, rws_len, l1, l1', l2, l2', l3, l3', h2, h3, h4, b1, b2, b3, hw, k, k']
    omega
end Go.Proofs.YthemimhlhjfdaaaDoor.Ab

/- Literals, clauses: what the reference's functions hand back; weights; copies. For every input; no condition. -/
set_option linter.unusedVariables false
set_option linter.unusedSimpArgs false
set_option maxRecDepth 100000
namespace Go.Proofs.YthemimhlhjfdaaaDoor.Ab
open Go Go.Ab Go.Qu Go.Proofs
attribute [local simp] and_assoc
theorem atom_sig {g : List Sym} {a : List Int} (h : atomB g a = true) : sigB g = true := by
  cases a with
  | nil => simp [atomB] at h
  | cons p r =>
    simp only [atomB] at h
    split at h
    · cases h
    · split at h
      · cases h
      · simp only [Bool.and_eq_true] at h; exact h.1.2
theorem w_rlitmay (z : Bool) (g : List Sym) (e : List D) (b z' : Bool) (a : List Int) (e' : List D) : C 49 [iG z g e, iLit b z' a e'] = some (iB (atomB g a), [iG z g e, iLit b z' a e']) := by
  refine wfn (lk := []) rfl rfl (fnW_way (q49 _ _ z (syms g) e b z' (ints a) e' _) ?_)
  have h1 := w_rmay z g e
  cases hg : sigB g
  · have hb : atomB g a = false := by
      cases h : atomB g a
      · rfl
      · rw [atom_sig h] at hg; cases hg
    simp [-Bool.exists_bool, h1, hg, hb]
  have h2 := w_risatom hg z z' e e' a
  cases h : atomB g a <;> simp [-Bool.exists_bool, h1, hg, h2, h]
/-- All rows of a clause. -/
def rowsOf (c : Cl) : List Row := c.ls.map (·.r) ++ c.ts ++ c.cs.map (·.r)
theorem w_rrows {c : Cl} (l1 : c.ls.length ≤ 1000) (l2 : c.ts.length ≤ 1000) (l3 : c.cs.length ≤ 1000) : C 51 [iC c] = some (.own (rowsOf c).isEmpty 56 1 (rws (rowsOf c)), [iC c]) := by
  refine wfn (lk := []) rfl rfl (fnW_way (q51 _ _ c.lz (lits c.ls) c.le c.tz (rws c.ts) c.te c.cz (lits c.cs) c.ce _) ?_)
  have h1 := blk_fun (F := F) (d := d51) (lk := []) (p := [1,1,0,1,0,0]) (p0 := [1,1,0,1]) (id := 0) (by kernel_rfl) (st := fun (i : Nat) => [(1, .dbox 47 0 [.sl 2 c.lz (lits c.ls) c.le, .sl 1 c.tz (rws c.ts) c.te, .sl 2 c.cz (lits c.cs) c.ce]), (3, .own (c.ls.take i).isEmpty 56 1 (rws ((c.ls.take i).map (·.r)))), (4, iI i)]) (I := fun i => i ≤ c.ls.length) (μ := fun i => c.ls.length - i)
    (res := fun _ => .norm [(1, .dbox 47 0 [.sl 2 c.lz (lits c.ls) c.le, .sl 1 c.tz (rws c.ts) c.te, .sl 2 c.cz (lits c.cs) c.ce]), (3, .own c.ls.isEmpty 56 1 (rws (c.ls.map (·.r)))), (4, iI c.ls.length)])
    (fun i hi => by
      by_cases h : i < c.ls.length
      · obtain ⟨l, hl⟩ := at_lt h
        have e1 : c.ls.take (i + 1) = c.ls.take i ++ [l] := by rw [List.take_add_one, hl]; rfl
        have e2 : (rws ((c.ls.take i).map (·.r))).length = i := by rw [rws_len, List.length_map, List.length_take]; omega
        have hi' : (i : Int) < c.ls.length := by omega
        refine .go (i + 1) (wpQ_way (q51_l0a _ _ c.lz (lits c.ls) c.le c.tz (rws c.ts) c.te c.cz (lits c.cs) c.ce _ _ i _) ?_) h (by omega) rfl
        simp [-Bool.exists_bool, -getElem?_pos, -Int.natCast_add, -List.map_take, lits_len, hi', lits_at hl, wr1 h (by omega), e1, rws_append, rws_cons, rws_nil, e2]
        omega
      · have e1 : i = c.ls.length := by omega
        subst e1
        refine .stop (.exit 0 [(1, .dbox 47 0 [.sl 2 c.lz (lits c.ls) c.le, .sl 1 c.tz (rws c.ts) c.te, .sl 2 c.cz (lits c.cs) c.ce]), (3, .own c.ls.isEmpty 56 1 (rws (c.ls.map (·.r)))), (4, iI c.ls.length)]) (wpQ_way (q51_l0a _ _ c.lz (lits c.ls) c.le c.tz (rws c.ts) c.te c.cz (lits c.cs) c.ce _ _ _ _) ?_) rfl rfl
        simp [lits_len]) 0 (Nat.zero_le _)
  have h2 := blk_fun (F := F) (d := d51) (lk := []) (p := [1,1,1,0,1,0,0]) (p0 := [1,1,1,0,1]) (id := 2) (by kernel_rfl) (st := fun (i : Nat) => [(1, .dbox 47 0 [.sl 2 c.lz (lits c.ls) c.le, .sl 1 c.tz (rws c.ts) c.te, .sl 2 c.cz (lits c.cs) c.ce]), (3, .own (c.ls.isEmpty && (c.ts.take i).isEmpty) 56 1 (rws (c.ls.map (·.r) ++ c.ts.take i))), (5, iI i)]) (I := fun i => i ≤ c.ts.length) (μ := fun i => c.ts.length - i)
    (res := fun _ => .norm [(1, .dbox 47 0 [.sl 2 c.lz (lits c.ls) c.le, .sl 1 c.tz (rws c.ts) c.te, .sl 2 c.cz (lits c.cs) c.ce]), (3, .own (c.ls.isEmpty && c.ts.isEmpty) 56 1 (rws (c.ls.map (·.r) ++ c.ts))), (5, iI c.ts.length)])
    (fun i hi => by
      by_cases h : i < c.ts.length
      · obtain ⟨l, hl⟩ := at_lt h
        have e1 : c.ts.take (i + 1) = c.ts.take i ++ [l] := by rw [List.take_add_one, hl]; rfl
        have e2 : (rws (c.ls.map (·.r) ++ c.ts.take i)).length = c.ls.length + i := by rw [rws_len, List.length_append, List.length_map, List.length_take]; omega
        have hi' : (i : Int) < c.ts.length := by omega
        refine .go (i + 1) (wpQ_way (q51_l2b _ _ c.lz (lits c.ls) c.le c.tz (rws c.ts) c.te c.cz (lits c.cs) c.ce _ _ i _) ?_) h (by omega) rfl
        have e3 : rws (c.ls.map (·.r) ++ c.ts.take (i + 1)) = rws (c.ls.map (·.r) ++ c.ts.take i) ++ [.sl 1 l.z (ints l.l) l.e] := by rw [e1, ← List.append_assoc, rws_append]; rfl
        simp [-Bool.exists_bool, -getElem?_pos, -Int.natCast_add, -List.map_take, rws_len, hi', rws_at hl, wr1 h (by omega), e2, e3]
        exact ⟨by omega, by omega, fun _ he => by rw [he] at h; simp at h⟩
      · have e1 : i = c.ts.length := by omega
        subst e1
        refine .stop (.exit 2 [(1, .dbox 47 0 [.sl 2 c.lz (lits c.ls) c.le, .sl 1 c.tz (rws c.ts) c.te, .sl 2 c.cz (lits c.cs) c.ce]), (3, .own (c.ls.isEmpty && c.ts.isEmpty) 56 1 (rws (c.ls.map (·.r) ++ c.ts))), (5, iI c.ts.length)]) (wpQ_way (q51_l2b _ _ c.lz (lits c.ls) c.le c.tz (rws c.ts) c.te c.cz (lits c.cs) c.ce _ _ _ _) ?_) rfl rfl
        simp [rws_len]) 0 (Nat.zero_le _)
  have h3 := blk_fun (F := F) (d := d51) (lk := []) (p := [1,1,1,1,0,1,0,0]) (p0 := [1,1,1,1,0,1]) (id := 4) (by kernel_rfl) (st := fun (i : Nat) => [(1, .dbox 47 0 [.sl 2 c.lz (lits c.ls) c.le, .sl 1 c.tz (rws c.ts) c.te, .sl 2 c.cz (lits c.cs) c.ce]), (3, .own ((c.ls.isEmpty && c.ts.isEmpty) && (c.cs.take i).isEmpty) 56 1 (rws ((c.ls.map (·.r) ++ c.ts) ++ (c.cs.take i).map (·.r)))), (6, iI i)]) (I := fun i => i ≤ c.cs.length) (μ := fun i => c.cs.length - i)
    (res := fun _ => .norm [(1, .dbox 47 0 [.sl 2 c.lz (lits c.ls) c.le, .sl 1 c.tz (rws c.ts) c.te, .sl 2 c.cz (lits c.cs) c.ce]), (3, .own ((c.ls.isEmpty && c.ts.isEmpty) && c.cs.isEmpty) 56 1 (rws ((c.ls.map (·.r) ++ c.ts) ++ c.cs.map (·.r)))), (6, iI c.cs.length)])
    (fun i hi => by
      by_cases h : i < c.cs.length
      · obtain ⟨l, hl⟩ := at_lt h
        have e1 : c.cs.take (i + 1) = c.cs.take i ++ [l] := by rw [List.take_add_one, hl]; rfl
        have e2 : (rws ((c.ls.map (·.r) ++ c.ts) ++ (c.cs.take i).map (·.r))).length = c.ls.length + c.ts.length + i := by rw [rws_len, List.length_append, List.length_append, List.length_map, List.length_map, List.length_take]; omega
        have hi' : (i : Int) < c.cs.length := by omega
        refine .go (i + 1) (wpQ_way (q51_l4b _ _ c.lz (lits c.ls) c.le c.tz (rws c.ts) c.te c.cz (lits c.cs) c.ce _ _ i _) ?_) h (by omega) rfl
        have e3 : rws ((c.ls.map (·.r) ++ c.ts) ++ (c.cs.take (i + 1)).map (·.r)) = rws ((c.ls.map (·.r) ++ c.ts) ++ (c.cs.take i).map (·.r)) ++ [.sl 1 l.r.z (ints l.r.l) l.r.e] := by rw [e1, List.map_append, ← List.append_assoc, rws_append]; rfl
        simp [-Bool.exists_bool, -getElem?_pos, -Int.natCast_add, -List.map_take, -List.append_assoc, lits_len, hi', lits_at hl, wr1 h (by omega), e2, e3]
        exact ⟨by omega, by omega, fun _ _ he => by rw [he] at h; simp at h⟩
      · have e1 : i = c.cs.length := by omega
        subst e1
        refine .stop (.exit 4 [(1, .dbox 47 0 [.sl 2 c.lz (lits c.ls) c.le, .sl 1 c.tz (rws c.ts) c.te, .sl 2 c.cz (lits c.cs) c.ce]), (3, .own ((c.ls.isEmpty && c.ts.isEmpty) && c.cs.isEmpty) 56 1 (rws ((c.ls.map (·.r) ++ c.ts) ++ c.cs.map (·.r)))), (6, iI c.cs.length)]) (wpQ_way (q51_l4b _ _ c.lz (lits c.ls) c.le c.tz (rws c.ts) c.te c.cz (lits c.cs) c.ce _ _ _ _) ?_) rfl rfl
        simp [lits_len]) 0 (Nat.zero_le _)
  have h1' : evP F (Go.Ab.W F) (JW F d51 []) d51 [] [1,1,0,1] [(1, .dbox 47 0 [.sl 2 c.lz (lits c.ls) c.le, .sl 1 c.tz (rws c.ts) c.te, .sl 2 c.cz (lits c.cs) c.ce]), (3, .own true 56 1 []), (4, iI 0)] = _ := h1
  have h2' := h2
  simp only [List.take_zero, List.append_nil, List.isEmpty_nil, Bool.and_true, Int.natCast_zero] at h2'
  have h3' := h3
  simp only [List.take_zero, List.map_nil, List.append_nil, List.isEmpty_nil, Bool.and_true, Int.natCast_zero] at h3'
  have hz : (rowsOf c).isEmpty = ((c.ls.isEmpty && c.ts.isEmpty) && c.cs.isEmpty) := by
    unfold rowsOf
    cases c.ls <;> cases c.ts <;> cases c.cs <;> simp
  refine ⟨_, _, _, _, _, _, _, _, _, _, _, _, h1', _, _, _, _, _, _, _, _, _, _, _, _, h2', _, _, _, _, _, _, _, _, _, _, _, _, h3', ?_⟩
  rw [hz]; rfl
end Go.Proofs.YthemimhlhjfdaaaDoor.Ab

/- Clauses: what the reference may; copies; the same. For every input; no condition. -/
set_option linter.unusedVariables false
set_option linter.unusedSimpArgs false
set_option maxRecDepth 100000
namespace Go.Proofs.YthemimhlhjfdaaaDoor.Ab
open Go Go.Ab Go.Qu Go.Proofs
attribute [local simp] and_assoc
theorem terms_row {g : List Sym} (hg : sigB g = true) (r : List Int) : (rowB g r = true ∧ termsM g r = (termsN g r : Int)) ∨ (rowB g r = false ∧ termsM g r = -1) := by
  unfold rowB termsM termsN begsM
  cases h : rowP g r with
  | none => right; simp
  | some ts => left; simp [hg, begs_len]
theorem l_rclmay0 {g : List Sym} (hg : sigB g = true) (z : Bool) (e : List D) (c : Cl) (l0 : c.ls.length ≤ 1000) (l2 : c.ts.length ≤ 1000) (l3 : c.cs.length ≤ 1000) : ((∀ j, 0 ≤ j → j < c.ls.length → (fun i => match c.ls[i]? with | some l => atomB g l.r.l | none => true) j = true) ∧ evP F (Go.Ab.W F) (JW F d39 []) d39 [] [1,1,0,1] [(0, iG z g e), (3, .dbox 47 0 [.sl 2 c.lz (lits c.ls) c.le, .sl 1 c.tz (rws c.ts) c.te, .sl 2 c.cz (lits c.cs) c.ce]), (5, iI 0)] = some (.norm [(0, iG z g e), (3, .dbox 47 0 [.sl 2 c.lz (lits c.ls) c.le, .sl 1 c.tz (rws c.ts) c.te, .sl 2 c.cz (lits c.cs) c.ce]), (5, iI c.ls.length)])) ∨ ((∃ j, 0 ≤ j ∧ j < c.ls.length ∧ (fun i => match c.ls[i]? with | some l => atomB g l.r.l | none => true) j = false) ∧ evP F (Go.Ab.W F) (JW F d39 []) d39 [] [1,1,0,1] [(0, iG z g e), (3, .dbox 47 0 [.sl 2 c.lz (lits c.ls) c.le, .sl 1 c.tz (rws c.ts) c.te, .sl 2 c.cz (lits c.cs) c.ce]), (5, iI 0)] = some (.ret [(4, iB false)])) := by
  have hso := sigOk hg
  exact blk_all (F := F) (d := d39) (lk := []) (p := [1,1,0,1,0,0]) (p0 := [1,1,0,1]) (by kernel_rfl) (n := c.ls.length) (id := 0) (st := fun i => [(0, iG z g e), (3, .dbox 47 0 [.sl 2 c.lz (lits c.ls) c.le, .sl 1 c.tz (rws c.ts) c.te, .sl 2 c.cz (lits c.cs) c.ce]), (5, iI i)]) (q := fun i => match c.ls[i]? with | some l => atomB g l.r.l | none => true) (rt := [(4, iB false)]) (e := [(0, iG z g e), (3, .dbox 47 0 [.sl 2 c.lz (lits c.ls) c.le, .sl 1 c.tz (rws c.ts) c.te, .sl 2 c.cz (lits c.cs) c.ce]), (5, iI c.ls.length)])
    (fun i hi hq => by
      obtain ⟨l, hl⟩ := at_lt hi
      rw [hl] at hq
      dsimp only at hq
      have hm := w_rlitmay z g e l.neg l.r.z l.r.l l.r.e
      have hi' : (i : Int) < c.ls.length := by omega
      exact wpQ_way (q39_l0a _ _ z (syms g) e c.lz (lits c.ls) c.le c.tz (rws c.ts) c.te c.cz (lits c.cs) c.ce i _) (by simp [-Bool.exists_bool, -getElem?_pos, -Int.natCast_add, lits_len, hi', lits_at hl, hm, hq, wr1 hi (by omega)]))
    (fun i hi hq => by
      obtain ⟨l, hl⟩ := at_lt hi
      rw [hl] at hq
      dsimp only at hq
      have hm := w_rlitmay z g e l.neg l.r.z l.r.l l.r.e
      have hi' : (i : Int) < c.ls.length := by omega
      exact wpQ_way (q39_l0a _ _ z (syms g) e c.lz (lits c.ls) c.le c.tz (rws c.ts) c.te c.cz (lits c.cs) c.ce i _) (by simp [-Bool.exists_bool, -getElem?_pos, -Int.natCast_add, lits_len, hi', lits_at hl, hm, hq]))
    (wpQ_way (q39_l0a _ _ z (syms g) e c.lz (lits c.ls) c.le c.tz (rws c.ts) c.te c.cz (lits c.cs) c.ce _ _) (by simp [lits_len])) 0 (Nat.zero_le _)
theorem l_rclmay2 {g : List Sym} (hg : sigB g = true) (z : Bool) (e : List D) (c : Cl) (l0 : c.ls.length ≤ 1000) (l2 : c.ts.length ≤ 1000) (l3 : c.cs.length ≤ 1000) : ((∀ j, 0 ≤ j → j < c.cs.length → (fun i => match c.cs[i]? with | some l => atomB g l.r.l | none => true) j = true) ∧ evP F (Go.Ab.W F) (JW F d39 []) d39 [] [1,1,1,0,1] [(0, iG z g e), (3, .dbox 47 0 [.sl 2 c.lz (lits c.ls) c.le, .sl 1 c.tz (rws c.ts) c.te, .sl 2 c.cz (lits c.cs) c.ce]), (6, iI 0)] = some (.norm [(0, iG z g e), (3, .dbox 47 0 [.sl 2 c.lz (lits c.ls) c.le, .sl 1 c.tz (rws c.ts) c.te, .sl 2 c.cz (lits c.cs) c.ce]), (6, iI c.cs.length)])) ∨ ((∃ j, 0 ≤ j ∧ j < c.cs.length ∧ (fun i => match c.cs[i]? with | some l => atomB g l.r.l | none => true) j = false) ∧ evP F (Go.Ab.W F) (JW F d39 []) d39 [] [1,1,1,0,1] [(0, iG z g e), (3, .dbox 47 0 [.sl 2 c.lz (lits c.ls) c.le, .sl 1 c.tz (rws c.ts) c.te, .sl 2 c.cz (lits c.cs) c.ce]), (6, iI 0)] = some (.ret [(4, iB false)])) := by
  have hso := sigOk hg
  exact blk_all (F := F) (d := d39) (lk := []) (p := [1,1,1,0,1,0,0]) (p0 := [1,1,1,0,1]) (by kernel_rfl) (n := c.cs.length) (id := 2) (st := fun i => [(0, iG z g e), (3, .dbox 47 0 [.sl 2 c.lz (lits c.ls) c.le, .sl 1 c.tz (rws c.ts) c.te, .sl 2 c.cz (lits c.cs) c.ce]), (6, iI i)]) (q := fun i => match c.cs[i]? with | some l => atomB g l.r.l | none => true) (rt := [(4, iB false)]) (e := [(0, iG z g e), (3, .dbox 47 0 [.sl 2 c.lz (lits c.ls) c.le, .sl 1 c.tz (rws c.ts) c.te, .sl 2 c.cz (lits c.cs) c.ce]), (6, iI c.cs.length)])
    (fun i hi hq => by
      obtain ⟨l, hl⟩ := at_lt hi
      rw [hl] at hq
      dsimp only at hq
      have hm := w_rlitmay z g e l.neg l.r.z l.r.l l.r.e
      have hi' : (i : Int) < c.cs.length := by omega
      exact wpQ_way (q39_l2b _ _ z (syms g) e c.lz (lits c.ls) c.le c.tz (rws c.ts) c.te c.cz (lits c.cs) c.ce i _) (by simp [-Bool.exists_bool, -getElem?_pos, -Int.natCast_add, lits_len, hi', lits_at hl, hm, hq, wr1 hi (by omega)]))
    (fun i hi hq => by
      obtain ⟨l, hl⟩ := at_lt hi
      rw [hl] at hq
      dsimp only at hq
      have hm := w_rlitmay z g e l.neg l.r.z l.r.l l.r.e
      have hi' : (i : Int) < c.cs.length := by omega
      exact wpQ_way (q39_l2b _ _ z (syms g) e c.lz (lits c.ls) c.le c.tz (rws c.ts) c.te c.cz (lits c.cs) c.ce i _) (by simp [-Bool.exists_bool, -getElem?_pos, -Int.natCast_add, lits_len, hi', lits_at hl, hm, hq]))
    (wpQ_way (q39_l2b _ _ z (syms g) e c.lz (lits c.ls) c.le c.tz (rws c.ts) c.te c.cz (lits c.cs) c.ce _ _) (by simp [lits_len])) 0 (Nat.zero_le _)
theorem l_rclmay4 {g : List Sym} (hg : sigB g = true) (z : Bool) (e : List D) (c : Cl) (l0 : c.ls.length ≤ 1000) (l2 : c.ts.length ≤ 1000) (l3 : c.cs.length ≤ 1000) : ((∀ j, 0 ≤ j → j < c.ts.length → (fun i => match c.ts[i]?, c.ts[0]? with | some r, some s => decide (0 ≤ termsM g r.l) && (termsM g r.l == termsM g s.l) | _, _ => true) j = true) ∧ evP F (Go.Ab.W F) (JW F d39 []) d39 [] [1,1,1,1,0,1] [(0, iG z g e), (3, .dbox 47 0 [.sl 2 c.lz (lits c.ls) c.le, .sl 1 c.tz (rws c.ts) c.te, .sl 2 c.cz (lits c.cs) c.ce]), (7, iI 0)] = some (.norm [(0, iG z g e), (3, .dbox 47 0 [.sl 2 c.lz (lits c.ls) c.le, .sl 1 c.tz (rws c.ts) c.te, .sl 2 c.cz (lits c.cs) c.ce]), (7, iI c.ts.length)])) ∨ ((∃ j, 0 ≤ j ∧ j < c.ts.length ∧ (fun i => match c.ts[i]?, c.ts[0]? with | some r, some s => decide (0 ≤ termsM g r.l) && (termsM g r.l == termsM g s.l) | _, _ => true) j = false) ∧ evP F (Go.Ab.W F) (JW F d39 []) d39 [] [1,1,1,1,0,1] [(0, iG z g e), (3, .dbox 47 0 [.sl 2 c.lz (lits c.ls) c.le, .sl 1 c.tz (rws c.ts) c.te, .sl 2 c.cz (lits c.cs) c.ce]), (7, iI 0)] = some (.ret [(4, iB false)])) := by
  have hso := sigOk hg
  exact blk_all (F := F) (d := d39) (lk := []) (p := [1,1,1,1,0,1,0,0]) (p0 := [1,1,1,1,0,1]) (by kernel_rfl) (n := c.ts.length) (id := 4) (st := fun i => [(0, iG z g e), (3, .dbox 47 0 [.sl 2 c.lz (lits c.ls) c.le, .sl 1 c.tz (rws c.ts) c.te, .sl 2 c.cz (lits c.cs) c.ce]), (7, iI i)]) (q := fun i => match c.ts[i]?, c.ts[0]? with | some r, some s => decide (0 ≤ termsM g r.l) && (termsM g r.l == termsM g s.l) | _, _ => true) (rt := [(4, iB false)]) (e := [(0, iG z g e), (3, .dbox 47 0 [.sl 2 c.lz (lits c.ls) c.le, .sl 1 c.tz (rws c.ts) c.te, .sl 2 c.cz (lits c.cs) c.ce]), (7, iI c.ts.length)])
    (fun i hi hq => by
      obtain ⟨r, hr⟩ := at_lt hi
      obtain ⟨s, hs⟩ := at_lt (l := c.ts) (i := 0) (by omega)
      rw [hr, hs] at hq
      simp only [Bool.and_eq_true, beq_iff_eq, decide_eq_true_eq] at hq
      have hi' : (i : Int) < c.ts.length := by omega
      have hm := w_rterms hso z r.z e r.e r.l
      have hm2 := w_rterms hso z s.z e s.e s.l
      rw [← hq.2] at hm2
      have hn : ¬ termsM g r.l < 0 := by omega
      exact wpQ_way (q39_l4b _ _ z (syms g) e c.lz (lits c.ls) c.le c.tz (rws c.ts) c.te c.cz (lits c.cs) c.ce i _) (by simp [-Bool.exists_bool, -getElem?_pos, -Int.natCast_add, rws_len, hi', rws_at hr, rws_at hs, hm, hm2, hn, hq.1, wr1 hi (by omega)]))
    (fun i hi hq => by
      obtain ⟨r, hr⟩ := at_lt hi
      obtain ⟨s, hs⟩ := at_lt (l := c.ts) (i := 0) (by omega)
      rw [hr, hs] at hq
      have hi' : (i : Int) < c.ts.length := by omega
      have hm := w_rterms hso z r.z e r.e r.l
      have hm2 := w_rterms hso z s.z e s.e s.l
      refine wpQ_way (q39_l4b _ _ z (syms g) e c.lz (lits c.ls) c.le c.tz (rws c.ts) c.te c.cz (lits c.cs) c.ce i _) ?_
      by_cases hn : termsM g r.l < 0
      · have hn2 : ¬ 0 ≤ termsM g r.l := by omega
        simp [-Bool.exists_bool, -getElem?_pos, -Int.natCast_add, rws_len, hi', rws_at hr, rws_at hs, hm, hm2, hn, hn2]
      · have hn' : 0 ≤ termsM g r.l := by omega
        simp [hn'] at hq
        simp [-Bool.exists_bool, -getElem?_pos, -Int.natCast_add, rws_len, hi', rws_at hr, rws_at hs, hm, hm2, hn, hn', hq])
    (wpQ_way (q39_l4b _ _ z (syms g) e c.lz (lits c.ls) c.le c.tz (rws c.ts) c.te c.cz (lits c.cs) c.ce _ _) (by simp [rws_len])) 0 (Nat.zero_le _)
theorem lits_all_at {g : List Sym} (ls : List LitR) : (∀ j, 0 ≤ j → j < ls.length → (match ls[j]? with | some l => atomB g l.r.l | none => true) = true) → litsB g ls = true := fun h => by
    unfold litsB
    rw [List.all_eq_true]
    intro l hl
    obtain ⟨i, hi, he⟩ := List.getElem_of_mem hl
    have := h i (Nat.zero_le _) hi
    rw [List.getElem?_eq_getElem hi, he] at this
    exact this
theorem lits_not_at {g : List Sym} (ls : List LitR) : (∃ j, 0 ≤ j ∧ j < ls.length ∧ (match ls[j]? with | some l => atomB g l.r.l | none => true) = false) → litsB g ls = false := fun ⟨j, _, hj, h⟩ => by
    unfold litsB
    rw [List.all_eq_false]
    refine ⟨ls[j], List.getElem_mem hj, ?_⟩
    rw [List.getElem?_eq_getElem hj] at h
    dsimp only at h
    rw [h]; simp
theorem lenR_append : ∀ (a b : List Row), lenR (a ++ b) = lenR a + lenR b
  | [], b => by simp [lenR]
  | r :: a, b => by simp [lenR, lenR_append a b]; omega
theorem lenR_map : ∀ (ls : List LitR), lenR (ls.map (·.r)) = lenL ls
  | [] => rfl
  | l :: ls => by simp [lenR, lenL, lenR_map ls]
theorem lenR_rowsOf (c : Cl) : lenR (rowsOf c) = lenL c.ls + lenR c.ts + lenL c.cs := by
  unfold rowsOf; rw [lenR_append, lenR_append, lenR_map, lenR_map]
theorem rowsOf_le {g : List Sym} {c : Cl} (h1 : litsB g c.ls = true) (h2 : rowsB g c.ts = true) (h3 : litsB g c.cs = true) : ∀ r ∈ rowsOf c, r.l.length ≤ 49 := by
  intro r hr
  unfold rowsOf at hr
  unfold litsB at h1 h3
  rw [List.all_eq_true] at h1 h3
  rcases List.mem_append.1 hr with hr | hr
  · rcases List.mem_append.1 hr with hr | hr
    · obtain ⟨l, hl, rfl⟩ := List.mem_map.1 hr
      exact (atom_codes (h1 l hl)).1
    · cases hts : c.ts with
      | nil => rw [hts] at hr; simp at hr
      | cons r0 tl =>
        rw [hts] at h2 hr
        unfold rowsB rowsF at h2
        rw [List.all_eq_true] at h2
        have := h2 r hr
        simp only [Bool.and_eq_true] at this
        have := rowB_len this.1
        omega
  · obtain ⟨l, hl, rfl⟩ := List.mem_map.1 hr
    exact (atom_codes (h3 l hl)).1
theorem l_rclmay6 {R : List Row} (b : Bool) (hn : R.length ≤ 3000) (hR : ∀ r ∈ R, r.l.length ≤ 49) : evP F (Go.Ab.W F) (JW F d39 []) d39 [] [1,1,1,1,1,1,1,0,1] [(9, .own b 56 1 (rws R)), (10, iI 0), (11, iI 0)] = some (.norm [(9, .own b 56 1 (rws R)), (10, iI (lenR R)), (11, iI R.length)]) := by
  have h1 := fun x hx => blk_fun (F := F) (d := d39) (lk := []) (p := [1,1,1,1,1,1,1,0,1,0,0]) (p0 := [1,1,1,1,1,1,1,0,1]) (id := 6) (by kernel_rfl) (st := fun (x : Nat × Nat) => [(9, .own b 56 1 (rws R)), (10, iI x.2), (11, iI x.1)]) (I := fun x => x.1 ≤ R.length ∧ x.2 ≤ 49 * x.1) (μ := fun x => R.length - x.1)
    (res := fun x => .norm [(9, .own b 56 1 (rws R)), (10, iI (x.2 + lenR (R.drop x.1) : Nat)), (11, iI R.length)])
    (fun x hx => by
      obtain ⟨i, k⟩ := x
      obtain ⟨hx1, hx2⟩ := hx
      dsimp only at hx1 hx2
      by_cases hi : i < R.length
      · obtain ⟨r, hr⟩ := at_lt hi
        have hd : R.drop i = r :: R.drop (i + 1) := by
          rw [List.drop_eq_getElem_cons hi]
          rw [List.getElem?_eq_getElem hi] at hr
          cases hr; rfl
        have hl := hR r (List.mem_of_getElem? hr)
        have hi' : (i : Int) < R.length := by omega
        have hw : IntKind.wrap .i64 ((k : Int) + (r.l.length : Int)) = ((k + r.l.length : Nat) : Int) := by rw [wr _ (by omega) (by omega)]; omega
        refine .go (i + 1, k + r.l.length) (wpQ_way (q39_l6a _ _ b (rws R) k i _) ?_) ⟨by dsimp only; omega, by dsimp only; omega⟩ (by dsimp only; omega) ?_
        · simp [-Bool.exists_bool, -getElem?_pos, -Int.natCast_add, rws_len, hi', rws_at hr, ints_len, hw, wr1 hi (by omega)]
        · dsimp only; rw [hd, lenR, ← Nat.add_assoc]
      · have e1 : i = R.length := by omega
        subst e1
        refine .stop (.exit 6 [(9, .own b 56 1 (rws R)), (10, iI k), (11, iI R.length)]) (wpQ_way (q39_l6a _ _ b (rws R) k _ _) (by simp [rws_len])) rfl ?_
        simp [blkO, lenR]) x hx
  have h2 := h1 (0, 0) ⟨Nat.zero_le _, Nat.le_refl _⟩
  simp only [List.drop_zero, Nat.zero_add, Int.natCast_zero] at h2
  exact h2
theorem w_rclmay (z : Bool) (g : List Sym) (e : List D) (c : Cl) : C 39 [iG z g e, iC c] = some (iB (clB g c), [iG z g e, iC c]) := by
  refine wfn (lk := []) rfl rfl (fnW_way (q39 _ _ z (syms g) e c.lz (lits c.ls) c.le c.tz (rws c.ts) c.te c.cz (lits c.cs) c.ce _) ?_)
  have h1 := w_rmay z g e
  cases hg : sigB g
  · simp [-Bool.exists_bool, h1, hg, clB]
  by_cases l1 : c.ls.length ≤ 5
  rotate_left
  · have l1' : 5 < (c.ls.length : Int) := by omega
    simp [-Bool.exists_bool, h1, hg, clB, lits_len, l1, l1']
  have l1' : ¬ 5 < (c.ls.length : Int) := by omega
  by_cases l3 : c.cs.length ≤ 3
  rotate_left
  · have l3' : 3 < (c.cs.length : Int) := by omega
    simp [-Bool.exists_bool, h1, hg, clB, lits_len, rws_len, l1, l1', l3, l3']
  have l3' : ¬ 3 < (c.cs.length : Int) := by omega
  by_cases l2 : c.ts.length ≤ 3
  rotate_left
  · have l2' : 3 < (c.ts.length : Int) := by omega
    simp [-Bool.exists_bool, h1, hg, clB, lits_len, rws_len, l1, l1', l2, l2', l3, l3']
  have l2' : ¬ 3 < (c.ts.length : Int) := by omega
  have b1 := l_rclmay0 hg z e c (by omega) (by omega) (by omega)
  have b2 := l_rclmay2 hg z e c (by omega) (by omega) (by omega)
  have b3 := l_rclmay4 hg z e c (by omega) (by omega) (by omega)
  rw [hg] at h1
  refine ⟨true, _, h1, ?_⟩
  rw [condW_tt, condW_d, if_neg (by rw [lits_len]; omega), condW_d, if_neg (by rw [lits_len]; omega), condW_d, if_neg (by rw [rws_len]; omega)]
  rcases b1 with ⟨a1, a2⟩ | ⟨a1, a2⟩
  rotate_left
  · have hb := lits_not_at _ a1
    have hcl : clB g c = false := by simp [clB, hb]
    exact .inl ⟨_, a2, by rw [hcl]⟩
  have hb := lits_all_at _ a1
  refine .inr ⟨_, _, _, _, _, _, _, _, _, _, _, _, _, a2, ?_⟩
  rcases b2 with ⟨c1, c2⟩ | ⟨c1, c2⟩
  rotate_left
  · have hc := lits_not_at _ c1
    have hcl : clB g c = false := by simp [clB, hc]
    exact .inl ⟨_, c2, by rw [hcl]⟩
  have hc := lits_all_at _ c1
  refine .inr ⟨_, _, _, _, _, _, _, _, _, _, _, _, _, c2, ?_⟩
  rcases b3 with ⟨d1, d2⟩ | ⟨d1, d2⟩
  rotate_left
  · have hd : rowsB g c.ts = false := by
      obtain ⟨j, _, hj, hq⟩ := d1
      obtain ⟨r, hr⟩ := at_lt hj
      cases hts : c.ts with
      | nil => rw [hts] at hj; simp at hj
      | cons r0 tl =>
        rw [hts] at hr hq
        dsimp only at hq
        rw [hr] at hq
        simp only [List.getElem?_cons_zero] at hq
        unfold rowsB rowsF
        rw [List.all_eq_false]
        rcases terms_row hg r0.l with ⟨i1, i2⟩ | ⟨i1, i2⟩
        · rcases terms_row hg r.l with ⟨k1, k2⟩ | ⟨k1, k2⟩
          · refine ⟨r, List.mem_of_getElem? hr, fun hcc => ?_⟩
            simp only [Bool.and_eq_true, beq_iff_eq] at hcc
            rw [k2, i2, hcc.2] at hq; simp at hq
          · exact ⟨r, List.mem_of_getElem? hr, fun hcc => by rw [k1] at hcc; simp at hcc⟩
        · exact ⟨r0, by simp, fun hcc => by rw [i1] at hcc; simp at hcc⟩
    have hcl : clB g c = false := by simp [clB, hd]
    exact .inl ⟨_, d2, by rw [hcl]⟩
  have hd : rowsB g c.ts = true := by
    cases hts : c.ts with
    | nil => rfl
    | cons r0 tl =>
      unfold rowsB rowsF
      rw [List.all_eq_true]
      intro r hr
      obtain ⟨j, hj, he⟩ := List.getElem_of_mem hr
      have q0 := d1 0 (Nat.le_refl _) (by rw [hts]; simp)
      have qj := d1 j (Nat.zero_le _) (by rw [hts]; exact hj)
      rw [hts] at q0 qj
      dsimp only at q0 qj
      rw [List.getElem?_eq_getElem hj, he] at qj
      simp only [List.getElem?_cons_zero, Bool.and_eq_true, beq_iff_eq, decide_eq_true_eq] at q0 qj
      rcases terms_row hg r0.l with ⟨i1, i2⟩ | ⟨i1, i2⟩
      · rcases terms_row hg r.l with ⟨k1, k2⟩ | ⟨k1, k2⟩
        · rw [k1]
          rw [k2, i2] at qj
          have : termsN g r.l = termsN g r0.l := by omega
          simp [this]
        · rw [k2] at qj; omega
      · rw [i2] at q0; omega
  refine .inr ⟨_, _, _, _, _, _, _, _, _, _, _, _, _, d2, ?_⟩
  have e1 := w_rrows (c := c) (by omega) (by omega) (by omega)
  have hle := rowsOf_le hb hd hc
  have e2 := l_rclmay6 (rowsOf c).isEmpty (R := rowsOf c) (by unfold rowsOf; simp; omega) hle
  rw [lenR_rowsOf] at e2
  refine ⟨_, _, _, e1, _, _, _, _, e2, ?_⟩
  by_cases k : lenL c.ls + lenR c.ts + lenL c.cs ≤ 240
  · have hcl : clB g c = true := by simp [clB, hg, l1, l2, l3, hb, hc, hd, k]
    rw [condW_d, if_pos (by omega), hcl]
  · have hcl : clB g c = false := by simp [clB, k]
    rw [condW_d, if_neg (by omega), hcl]
end Go.Proofs.YthemimhlhjfdaaaDoor.Ab

/- Clauses: copies; the same. For every input; no condition. -/
set_option linter.unusedVariables false
set_option linter.unusedSimpArgs false
set_option maxRecDepth 100000
namespace Go.Proofs.YthemimhlhjfdaaaDoor.Ab
open Go Go.Ab Go.Qu Go.Proofs
attribute [local simp] and_assoc
def freshL (l : LitR) : LitR := ⟨l.neg, fresh l.r⟩
def LitsIn (ls : List LitR) : Prop := ls.length * 32 ≤ 140737488351232 ∧ ∀ l ∈ ls, Len l.r.l
theorem w_copylits {ls : List LitR} (h : LitsIn ls) (z : Bool) (e : List D) : C 34 [iL z ls e] = some (.own ls.isEmpty 58 2 (lits (ls.map freshL)), [iL z ls e]) := by
  obtain ⟨hn, hr⟩ := h
  refine wfn (lk := []) rfl rfl (fnW_way (q34 _ _ z (lits ls) e _) ?_)
  have h1 := blk_fun (F := F) (d := d34) (lk := []) (p := [1,1,0,1,0,0]) (p0 := [1,1,0,1]) (id := 0) (by kernel_rfl) (st := fun (i : Nat) => [(0, iL z ls e), (3, .own (ls.take i).isEmpty 58 2 (lits ((ls.take i).map freshL))), (4, iI i)]) (I := fun i => i ≤ ls.length) (μ := fun i => ls.length - i)
    (res := fun _ => .norm [(0, iL z ls e), (3, .own ls.isEmpty 58 2 (lits (ls.map freshL))), (4, iI ls.length)])
    (fun i hi => by
      by_cases h : i < ls.length
      · obtain ⟨l, hl⟩ := at_lt h
        have hL := hr l (List.mem_of_getElem? hl)
        have e1 : ls.take (i + 1) = ls.take i ++ [l] := by rw [List.take_add_one, hl]; rfl
        have e2 : (lits ((ls.take i).map freshL)).length = i := by rw [lits_len, List.length_map, List.length_take]; omega
        have hi' : (i : Int) < ls.length := by omega
        have e3 : lits ((ls.take (i + 1)).map freshL) = lits ((ls.take i).map freshL) ++ [.agg [.bool l.neg, .sl 1 false (ints l.r.l) []]] := by rw [e1, List.map_append, lits_append]; rfl
        have e4 : (ls.take (i + 1)).isEmpty = false := by rw [e1]; cases ls.take i <;> rfl
        refine .go (i + 1) (wpQ_way (q34_l0a _ _ z (lits ls) e _ _ i _) ?_) h (by omega) rfl
        have hat := lits_at hl
        cases hneg : l.neg <;> rw [hneg] at hat e3 <;> simp [-Bool.exists_bool, -getElem?_pos, -Int.natCast_add, -List.map_take, lits_len, hi', hat, w_copyints hL, wr1 h (by omega), e2, e3, e4] <;> exact ⟨by omega, by omega⟩
      · have e1 : i = ls.length := by omega
        subst e1
        refine .stop (.exit 0 [(0, iL z ls e), (3, .own ls.isEmpty 58 2 (lits (ls.map freshL))), (4, iI ls.length)]) (wpQ_way (q34_l0a _ _ z (lits ls) e _ _ ls.length _) ?_) rfl rfl
        simp [lits_len]) 0 (Nat.zero_le _)
  exact ⟨_, _, _, _, _, _, h1, rfl⟩
/-- What counts of literals. -/
def ks (l : LitR) : Bool × List Int := (l.neg, l.r.l)
theorem w_samelits {a : List LitR} (ha : LitsIn a) (b : List LitR) (z z' : Bool) (e e' : List D) : C 41 [iL z a e, iL z' b e'] = some (iB (decide (a.map ks = b.map ks)), [iL z a e, iL z' b e']) := by
  obtain ⟨hn, hr⟩ := ha
  refine wfn (lk := []) rfl rfl (fnW_way (q41 _ _ z (lits a) e z' (lits b) e' _) ?_)
  by_cases hl : a.length = b.length
  rotate_left
  · have e1 : ¬ (a.length : Int) = b.length := by omega
    have e2 : ¬ a.map ks = b.map ks := fun h => hl (by have := congrArg List.length h; simpa using this)
    simp [lits_len, e1, e2]
  rcases blk_all (F := F) (d := d41) (lk := []) (p := [1,1,0,1,0,0]) (p0 := [1,1,0,1]) (by kernel_rfl) (n := a.length) (id := 0) (st := fun i => [(0, iL z a e), (1, iL z' b e'), (5, iI i)]) (q := fun i => (a[i]?.map ks) == (b[i]?.map ks)) (rt := [(4, iB false)]) (e := [(0, iL z a e), (1, iL z' b e'), (5, iI a.length)])
    (fun i hi hq => by
      obtain ⟨x, hx⟩ := at_lt hi
      obtain ⟨y, hy⟩ := at_lt (show i < b.length by omega)
      have hxa := lits_at hx; have hya := lits_at hy
      simp [hx, hy, ks] at hq
      have hs := w_sameints (hr x (List.mem_of_getElem? hx)) y.r.l x.r.z y.r.z x.r.e y.r.e
      have hi' : (i : Int) < a.length := by omega
      rw [hq.2] at hs hxa
      refine wpQ_way (q41_l0a _ _ z (lits a) e z' (lits b) e' i _) ?_
      rw [hq.1] at hxa
      cases hneg : y.neg <;> rw [hneg] at hxa hya <;> simp [-Bool.exists_bool, -getElem?_pos, -Int.natCast_add, lits_len, wr1 hi (by omega), hi', hxa, hya, hs])
    (fun i hi hq => by
      obtain ⟨x, hx⟩ := at_lt hi
      obtain ⟨y, hy⟩ := at_lt (show i < b.length by omega)
      have hxa := lits_at hx; have hya := lits_at hy
      simp [hx, hy, ks] at hq
      have hs := w_sameints (hr x (List.mem_of_getElem? hx)) y.r.l x.r.z y.r.z x.r.e y.r.e
      have hi' : (i : Int) < a.length := by omega
      refine wpQ_way (q41_l0a _ _ z (lits a) e z' (lits b) e' i _) ?_
      cases hnx : x.neg <;> cases hny : y.neg <;> rw [hnx] at hxa <;> rw [hny] at hya <;> simp [hnx, hny] at hq <;> simp [-Bool.exists_bool, -getElem?_pos, -Int.natCast_add, lits_len, hi', hxa, hya, hs, hq])
    (wpQ_way (q41_l0a _ _ z (lits a) e z' (lits b) e' a.length _) (by simp [lits_len])) 0 (Nat.zero_le _) with ⟨h2, h3⟩ | ⟨⟨j, h2, h4, h5⟩, h3⟩
  · have hab : a.map ks = b.map ks := by
      refine List.ext_getElem? (fun i => ?_)
      by_cases hi : i < a.length
      · have := h2 i (Nat.zero_le _) hi
        simpa using this
      · rw [List.getElem?_eq_none (by simpa using hi), List.getElem?_eq_none (by simp; omega)]
    simp at h3
    simp [lits_len, hl, hab, h3]
  · have hab : ¬ a.map ks = b.map ks := fun h => by
      have := congrArg (·[j]?) h
      simp at this h5
      exact h5 this
    simp at h3
    simp [lits_len, hl, hab, h3]
/-- What a clause is made of. -/
structure ClIn (c : Cl) : Prop where
  ls : LitsIn c.ls
  most : c.ts.length * 24 ≤ 140737488351232
  rows : ∀ r ∈ c.ts, Len r.l
  cs : LitsIn c.cs
def clKey (c : Cl) : List (Bool × List Int) × List (List Int) × List (Bool × List Int) := (c.ls.map ks, c.ts.map (·.l), c.cs.map ks)
def freshC (c : Cl) : Cl := ⟨c.ls.isEmpty, c.ls.map freshL, [], c.ts.isEmpty, c.ts.map fresh, [], c.cs.isEmpty, c.cs.map freshL, []⟩
theorem freshC_key (c : Cl) : clKey (freshC c) = clKey c := by
  simp [clKey, freshC, freshL, fresh, ks]
theorem w_copyclause {c : Cl} (h : ClIn c) : C 23 [iC c] = some (.agg [.own c.ls.isEmpty 58 2 (lits (c.ls.map freshL)), .own c.ts.isEmpty 56 1 (rws (c.ts.map fresh)), .own c.cs.isEmpty 58 2 (lits (c.cs.map freshL))], [iC c]) := by
  refine wfn (lk := []) rfl rfl (fnW_way (q23 _ _ c.lz (lits c.ls) c.le c.tz (rws c.ts) c.te c.cz (lits c.cs) c.ce _) ?_)
  exact ⟨_, _, _, w_copylits h.ls _ _, _, _, _, w_copyrows h.most h.rows _ _, _, _, _, w_copylits h.cs _ _, rfl⟩
theorem w_sameclause {c : Cl} (h : ClIn c) (c' : Cl) : C 26 [iC c, iC c'] = some (iB (decide (clKey c = clKey c')), [iC c, iC c']) := by
  refine wfn (lk := []) rfl rfl (fnW_way (q26 _ _ c.lz (lits c.ls) c.le c.tz (rws c.ts) c.te c.cz (lits c.cs) c.ce c'.lz (lits c'.ls) c'.le c'.tz (rws c'.ts) c'.te c'.cz (lits c'.cs) c'.ce _) ?_)
  have h1 := w_samelits h.ls c'.ls c.lz c'.lz c.le c'.le
  have h2 := w_samerows h.most h.rows c'.ts c.tz c'.tz c.te c'.te
  have h3 := w_samelits h.cs c'.cs c.cz c'.cz c.ce c'.ce
  refine ⟨_, _, _, h1, ?_⟩
  by_cases k1 : c.ls.map ks = c'.ls.map ks
  rotate_left
  · simp [k1, clKey]
  rw [decide_eq_true k1, condW_tt]
  refine ⟨_, _, _, h2, ?_⟩
  by_cases k2 : c.ts.map (·.l) = c'.ts.map (·.l)
  rotate_left
  · simp [k2, clKey]
  rw [decide_eq_true k2, condW_tt]
  refine ⟨_, _, _, h3, ?_⟩
  by_cases k3 : c.cs.map ks = c'.cs.map ks
  · simp [k1, k2, k3, clKey]
  · simp [k3, clKey]
end Go.Proofs.YthemimhlhjfdaaaDoor.Ab
