/- Rows of terms: what the program's and the reference's exported functions hand back. For every input; no condition. -/
import Derived.Test.YtjhganbjbiihoaaDoorClauseHolds0
import Derived.Test.YtjhganbjbiihoaaDoorClauseHolds1
import Derived.Test.YtjhganbjbiihoaaDoorClauseHolds2
import Derived.Test.YtjhganbjbiihoaaDoorClauseHolds3
import Derived.Test.YtjhganbjbiihoaaDoorClauseHolds4
import Derived.Test.YtjhganbjbiihoaaDoorClauseHolds5
import Derived.Test.YtjhganbjbiihoaaDoorClauseHolds6
import Derived.Test.YtjhganbjbiihoaaDoorClauseHolds7
import Derived.Test.YtjhganbjbiihoaaDoorClauseHolds8
import Derived.Test.YtjhganbjbiihoaaDoorClauseHolds9
import Derived.Test.YtjhganbjbiihoaaDoorClauseHolds10
import Derived.Test.YtjhganbjbiihoaaDoorClauseHolds11
set_option linter.unusedVariables false
set_option linter.unusedSimpArgs false
set_option maxRecDepth 100000
namespace Go.Proofs.YtjhganbjbiihoaaDoor.Ab
open Go Go.Ab Go.Qu Go.Proofs
attribute [local simp] and_assoc
theorem w_row (z z' : Bool) (g : List Sym) (e e' : List D) (r : List Int) : C 87 [iG z g e, iS z' r e'] = some (.tup [iI (termsN g r), iI (if rowB g r = true then 0 else 200)], [iG z g e, iS z' r e']) := by
  refine wfn (lk := []) rfl rfl (fnW_way (q87 _ _ z (syms g) e z' (ints r) e' _) ?_)
  have h1 := w_begins z z' g e e' r
  cases h : rowB g r
  · simp [-Bool.exists_bool, h1, h, termsN_no h]
  · simp [-Bool.exists_bool, h1, h, ints_len, termsN]
theorem w_sum {g : List Sym} (hg : SigOk g) {r : List Int} (hr : Len r) (hk : Known g r) (z z' : Bool) (e e' : List D) : C 33 [iG z g e, iS z' r e'] = some (iI (sumW g r), [iG z g e, iS z' r e']) := by
  have hrl := hr.lt
  refine wfn (lk := []) rfl rfl (fnW_way (q33 _ _ z (syms g) e z' (ints r) e' _) ?_)
  have h1 := fun x hx => blk_fun (F := F) (d := d33) (lk := []) (p := [1,1,0,1,0,0]) (p0 := [1,1,0,1]) (id := 0) (by kernel_rfl) (st := fun (x : Nat × Int) => [(0, iG z g e), (5, iI x.2), (8, iS z' r e'), (9, iI r.length), (10, iI x.1)]) (I := fun x => x.1 ≤ r.length ∧ 0 ≤ x.2 ∧ x.2 ≤ 20 * x.1) (μ := fun x => r.length - x.1)
    (res := fun x => .norm [(0, iG z g e), (5, iI (x.2 + sumW g (r.drop x.1))), (8, iS z' r e'), (9, iI r.length), (10, iI r.length)])
    (fun x hx => by
      obtain ⟨i, k⟩ := x
      obtain ⟨hx1, hx2, hx3⟩ := hx
      dsimp only at hx1 hx2 hx3
      by_cases hi : i < r.length
      · have hc := hk _ (gi_mem hi)
        have hcw := codeW_le hg _ hc
        have hi' : (i : Int) < r.length := by omega
        have hw : IntKind.wrap .i64 (k + codeW g (gi r i)) = k + codeW g (gi r i) := wr _ (by omega) (by omega)
        refine .go (i + 1, k + codeW g (gi r i)) (wpQ_way (q33_l0a _ _ z (syms g) e k z' (ints r) e' _ i _) ?_) ⟨by dsimp only; omega, by dsimp only; omega, by dsimp only; omega⟩ (by dsimp only; omega) ?_
        · by_cases h0 : gi r i < 0
          · have e1 : codeW g (gi r i) = 1 := by simp [codeW, h0]
            have h0n : ¬ 0 ≤ gi r i := by omega
            rw [e1] at hw ⊢
            simp [-Bool.exists_bool, -getElem?_pos, -Int.natCast_add, hi', Go.Ab.ints_at hi, h0, h0n, hw, wr1 hi (by omega)]
          · have h0' : 0 ≤ gi r i := by omega
            obtain ⟨s, hs⟩ := at_lt (l := g) (i := (gi r i).toNat) (by omega)
            have e1 : codeW g (gi r i) = s.wt := by simp [codeW, h0, hs]
            rw [e1] at hw ⊢
            simp [-Bool.exists_bool, -getElem?_pos, -Int.natCast_add, hi', Go.Ab.ints_at hi, h0, h0', syms_at hs, hw, wr1 hi (by omega)]
        · dsimp only
          rw [gi_drop hi, sumW, Int.add_assoc]
      · have e1 : i = r.length := by omega
        subst e1
        refine .stop (.exit 0 [(0, iG z g e), (5, iI k), (8, iS z' r e'), (9, iI r.length), (10, iI r.length)]) (wpQ_way (q33_l0a _ _ z (syms g) e k z' (ints r) e' _ _ _) (by simp)) rfl ?_
        simp [blkO, sumW]) x hx
  have h2 : evP F (Go.Ab.W F) (JW F d33 []) d33 [] [1,1,0,1] [(0, iG z g e), (5, iI 0), (8, iS z' r e'), (9, iI r.length), (10, iI 0)] = _ := h1 (0, 0) ⟨Nat.zero_le _, by decide, by decide⟩
  rw [List.drop_zero, Int.zero_add] at h2
  simp [-Bool.exists_bool, ints_len, h2]
/-! ### Numbers that rise -/
theorem w_isnan (c : Int) : C 96 [iI c] = some (iB false, [iI c]) :=
  wfn (lk := []) rfl rfl (fnW_way (q96 _ _ c _) (by simp))
theorem w_cisnan (c : Int) : C 113 [iI c] = some (iB false, [iI c]) :=
  wfn (lk := []) rfl rfl (fnW_way (q113 _ _ c _) (by simp))
theorem w_less (a b : Int) : C 95 [iI a, iI b] = some (iB (decide (a < b)), [iI a, iI b]) := by
  refine wfn (lk := []) rfl rfl (fnW_way (q95 _ _ a b _) ?_)
  by_cases h : a < b <;> simp [-Bool.exists_bool, w_cisnan, h]
theorem w_binsearch {vs : List Int} (hu : Up vs) (hl : vs.length ≤ 1000000) (z : Bool) (e : List D) (v : Int) : C 64 [iS z vs e, iI v] = some (.tup [iI (lowS vs v), iB (decide (v ∈ vs))], [iS z vs e, iI v]) := by
  refine wfn (lk := []) rfl rfl (fnW_way (q64 _ _ z (ints vs) e v _) ?_)
  have h1 := fun x hx => blk_fun (F := F) (d := d64) (lk := []) (p := [1,1,1,0,0,0]) (p0 := [1,1,1,0]) (id := 0) (by kernel_rfl) (st := fun (x : Nat × Nat) => [(0, iS z vs e), (1, iI v), (6, iI vs.length), (7, iI x.1), (8, iI x.2)]) (I := fun x => x.1 ≤ x.2 ∧ x.2 ≤ vs.length ∧ (∀ k, k < x.1 → gi vs k < v) ∧ (∀ k, x.2 ≤ k → k < vs.length → v ≤ gi vs k)) (μ := fun x => x.2 - x.1)
    (res := fun _ => .norm [(0, iS z vs e), (1, iI v), (6, iI vs.length), (7, iI (lowS vs v)), (8, iI (lowS vs v))])
    (fun x hx => by
      obtain ⟨i, j⟩ := x
      obtain ⟨hx1, hx2, hx3, hx4⟩ := hx
      dsimp only at hx1 hx2 hx3 hx4
      by_cases h : i < j
      · have hw : IntKind.wrap .i64 (IntKind.wrap .u64 (IntKind.wrap .i64 ((i : Int) + j)) / 2 ^ min (Int.toNat 1) (IntKind.bits .u64)) = (((i + j) / 2 : Nat) : Int) := by
          have e1 : IntKind.wrap .i64 ((i : Int) + j) = ((i + j : Nat) : Int) := by rw [wr _ (by omega) (by omega)]; omega
          have e2 : IntKind.wrap .u64 (((i + j : Nat) : Int)) = ((i + j : Nat) : Int) := by
            simp [IntKind.wrap, IntKind.bits, IntKind.signed]; omega
          have e3 : (2 : Int) ^ min (Int.toNat 1) (IntKind.bits .u64) = 2 := by decide
          rw [e1, e2, e3, wr _ (by omega) (by omega)]; omega
        have hm : (i + j) / 2 < vs.length := by omega
        have hc := w_less (gi vs ((i + j) / 2)) v
        have hw2 : IntKind.wrap .i64 ((((i + j) / 2 : Nat) : Int) + 1) = (((i + j) / 2 + 1 : Nat) : Int) := by rw [wr _ (by omega) (by omega)]; omega
        have h' : (i : Int) < j := by omega
        by_cases hv : gi vs ((i + j) / 2) < v
        · refine .go ((i + j) / 2 + 1, j) (wpQ_way (q64_l0a _ _ z (ints vs) e v _ i j _) ?_) ⟨by dsimp only; omega, hx2, fun k hk => ?_, hx4⟩ (by dsimp only; omega) rfl
          · rw [hw, hw2, Int.toNat_natCast, Go.Ab.ints_at hm]
            simp [-Bool.exists_bool, -getElem?_pos, h, hc, hv]
            omega
          · rcases Nat.lt_or_ge k ((i + j) / 2) with h5 | h5
            · have := up_gi hu h5 hm; omega
            · have : k = (i + j) / 2 := by dsimp only at hk; omega
              rw [this]; exact hv
        · refine .go (i, (i + j) / 2) (wpQ_way (q64_l0a _ _ z (ints vs) e v _ i j _) ?_) ⟨by dsimp only; omega, by dsimp only; omega, hx3, fun k hk hk2 => ?_⟩ (by dsimp only; omega) rfl
          · rw [hw, hw2, Int.toNat_natCast, Go.Ab.ints_at hm]
            simp [-Bool.exists_bool, -getElem?_pos, h, hc, hv]
            omega
          · rcases Nat.lt_or_ge ((i + j) / 2) k with h5 | h5
            · have := up_gi hu h5 hk2; omega
            · have : k = (i + j) / 2 := by dsimp only at hk; omega
              rw [this]; omega
      · have e1 : j = i := by omega
        subst e1
        have e2 : lowS vs v = j := low_of j hx2 hx3 hx4
        refine .stop (.exit 0 [(0, iS z vs e), (1, iI v), (6, iI vs.length), (7, iI j), (8, iI j)]) (wpQ_way (q64_l0a _ _ z (ints vs) e v _ j j _) ?_) rfl ?_
        · simp
        · rw [e2]; rfl) x hx
  have h2 : evP F (Go.Ab.W F) (JW F d64 []) d64 [] [1,1,1,0] [(0, iS z vs e), (1, iI v), (6, iI vs.length), (7, iI 0), (8, iI vs.length)] = _ := h1 (0, vs.length) ⟨Nat.zero_le _, Nat.le_refl _, fun k hk => absurd hk (Nat.not_lt_zero _), fun k hk hk2 => absurd hk2 (by dsimp only at hk; omega)⟩
  have hmem := low_mem (v := v) hu
  by_cases h3 : lowS vs v < vs.length
  · by_cases h4 : gi vs (lowS vs v) = v
    · have h5 : v ∈ vs := hmem.2 ⟨h3, h4⟩
      simp [-Bool.exists_bool, -getElem?_pos, ints_len, h2, h3, h4, h5, Go.Ab.ints_at h3]
    · have h5 : ¬ v ∈ vs := fun h => h4 (hmem.1 h).2
      simp [-Bool.exists_bool, -getElem?_pos, ints_len, h2, h3, h4, h5, Go.Ab.ints_at h3, w_isnan]
  · have h5 : ¬ v ∈ vs := fun h => h3 (hmem.1 h).1
    simp [-Bool.exists_bool, ints_len, h2, h3, h5]
/-! ### The reference's -/
end Go.Proofs.YtjhganbjbiihoaaDoor.Ab

/- Literals, clauses: what the program's and the reference's functions hand back. For every input; no condition. -/
set_option linter.unusedVariables false
set_option linter.unusedSimpArgs false
set_option maxRecDepth 100000
namespace Go.Proofs.YtjhganbjbiihoaaDoor.Ab
open Go Go.Ab Go.Qu Go.Proofs
attribute [local simp] and_assoc
theorem w_litmay (z : Bool) (g : List Sym) (e : List D) (b z' : Bool) (a : List Int) (e' : List D) : C 86 [iG z g e, iLit b z' a e'] = some (iB (atomB g a), [iG z g e, iLit b z' a e']) := by
  refine wfn (lk := []) rfl rfl (fnW_way (q86 _ _ z (syms g) e b z' (ints a) e' _) ?_)
  have h1 := w_isatom z z' g e e' a
  cases h : atomB g a <;> simp [-Bool.exists_bool, h1, h]
theorem w_litsmay (z z' : Bool) (g : List Sym) (e e' : List D) {ls : List LitR} (hl : ls.length ≤ 1000) : C 48 [iG z g e, iL z' ls e'] = some (.tup [iI (if litsB g ls = true then (lenL ls : Int) else 0), iB (litsB g ls)], [iG z g e, iL z' ls e']) := by
  refine wfn (lk := []) rfl rfl (fnW_way (q48 _ _ z (syms g) e z' (lits ls) e' _) ?_)
  have h1 := fun x hx => blk_fun (F := F) (d := d48) (lk := []) (p := [1,1,0,1,0,0]) (p0 := [1,1,0,1]) (id := 0) (by kernel_rfl) (st := fun (x : Nat × Nat) => [(0, iG z g e), (6, iI x.2), (9, iL z' ls e'), (10, iI ls.length), (11, iI x.1)]) (I := fun x => x.1 ≤ ls.length ∧ x.2 ≤ 49 * x.1) (μ := fun x => ls.length - x.1)
    (res := fun x => if litsB g (ls.drop x.1) = true then .norm [(0, iG z g e), (6, iI (x.2 + lenL (ls.drop x.1) : Nat)), (9, iL z' ls e'), (10, iI ls.length), (11, iI ls.length)] else .ret [(4, iI 0), (5, iB false)])
    (fun x hx => by
      obtain ⟨i, k⟩ := x
      obtain ⟨hx1, hx2⟩ := hx
      dsimp only at hx1 hx2
      by_cases hi : i < ls.length
      · obtain ⟨l, hl1⟩ := at_lt hi
        have hd : ls.drop i = l :: ls.drop (i + 1) := by
          rw [List.drop_eq_getElem_cons hi]
          rw [List.getElem?_eq_getElem hi] at hl1
          cases hl1; rfl
        have hm := w_litmay z g e l.neg l.r.z l.r.l l.r.e
        have hi' : (i : Int) < ls.length := by omega
        cases hb : atomB g l.r.l
        · refine .stop (.ret [(4, iI 0), (5, iB false)]) (wpQ_way (q48_l0a _ _ z (syms g) e k z' (lits ls) e' _ i _) ?_) rfl ?_
          · simp [-Bool.exists_bool, -getElem?_pos, hi', lits_at hl1, hm, hb]
          · dsimp only; rw [hd]; simp [litsB, hb, blkO]
        · have h49 := (atom_codes hb).1
          have hw : IntKind.wrap .i64 ((k : Int) + (l.r.l.length : Int)) = ((k + l.r.l.length : Nat) : Int) := by rw [wr _ (by omega) (by omega)]; omega
          refine .go (i + 1, k + l.r.l.length) (wpQ_way (q48_l0a _ _ z (syms g) e k z' (lits ls) e' _ i _) ?_) ⟨by dsimp only; omega, by dsimp only; omega⟩ (by dsimp only; omega) ?_
          · simp [-Bool.exists_bool, -getElem?_pos, -Int.natCast_add, hi', lits_at hl1, hm, hb, ints_len, hw, wr1 hi (by omega)]
          · dsimp only; rw [hd]
            have h3 : litsB g (l :: ls.drop (i + 1)) = litsB g (ls.drop (i + 1)) := by simp [litsB, hb]
            rw [h3, lenL, ← Nat.add_assoc]
      · have e1 : i = ls.length := by omega
        subst e1
        refine .stop (.exit 0 [(0, iG z g e), (6, iI k), (9, iL z' ls e'), (10, iI ls.length), (11, iI ls.length)]) (wpQ_way (q48_l0a _ _ z (syms g) e k z' (lits ls) e' _ _ _) (by simp)) rfl ?_
        simp [blkO, litsB, lenL]) x hx
  have h2 : evP F (Go.Ab.W F) (JW F d48 []) d48 [] [1,1,0,1] [(0, iG z g e), (6, iI 0), (9, iL z' ls e'), (10, iI ls.length), (11, iI 0)] = _ := h1 (0, 0) ⟨Nat.zero_le _, Nat.le_refl _⟩
  rw [List.drop_zero, Nat.zero_add] at h2
  cases h : litsB g ls
  · rw [h] at h2
    simp only [Bool.false_eq_true, if_false] at h2
    simp [-Bool.exists_bool, lits_len, h2]
  · rw [h] at h2
    simp only [if_true] at h2
    simp [-Bool.exists_bool, lits_len, h2]
theorem w_rowsmay (z z' : Bool) (g : List Sym) (e e' : List D) {ts : List Row} (hl : ts.length ≤ 1000) : C 49 [iG z g e, iR z' ts e'] = some (.tup [iI (if rowsB g ts = true then (lenR ts : Int) else 0), iB (rowsB g ts)], [iG z g e, iR z' ts e']) := by
  refine wfn (lk := []) rfl rfl (fnW_way (q49 _ _ z (syms g) e z' (rws ts) e' _) ?_)
  cases ts with
  | nil =>
    have h2 : evP F (Go.Ab.W F) (JW F d49 []) d49 [] [1,1,0,1] [(0, iG z g e), (6, iI 0), (7, iI 0), (12, iR z' [] e'), (13, iI 0), (14, iI 0)] = some (.norm [(0, iG z g e), (6, iI 0), (7, iI 0), (12, iR z' [] e'), (13, iI 0), (14, iI 0)]) :=
      blk_fun (F := F) (d := d49) (lk := []) (p := [1,1,0,1,0,0]) (p0 := [1,1,0,1]) (id := 0) (by kernel_rfl) (st := fun (_ : Unit) => [(0, iG z g e), (6, iI 0), (7, iI 0), (12, iR z' [] e'), (13, iI 0), (14, iI 0)]) (I := fun _ => True) (μ := fun _ => 0) (res := fun _ => .norm [(0, iG z g e), (6, iI 0), (7, iI 0), (12, iR z' [] e'), (13, iI 0), (14, iI 0)])
        (fun _ _ => .stop (.exit 0 [(0, iG z g e), (6, iI 0), (7, iI 0), (12, iR z' [] e'), (13, iI 0), (14, iI 0)]) (wpQ_way (q49_l0a _ _ z (syms g) e 0 0 z' (rws []) e' _ _ _) (by simp)) rfl (by simp [blkO])) () trivial
    simp only [iR, rws_nil] at h2
    simp [-Bool.exists_bool, rws_nil, rowsB, lenR, h2]
  | cons r0 tl =>
    have hsp : ∀ n : Nat, n = termsN g r0.l → rowsB g (r0 :: tl) = rowsF g n (r0 :: tl) := fun n h => by rw [h]; rfl
    have h1 := fun x hx => blk_fun (F := F) (d := d49) (lk := []) (p := [1,1,0,1,0,0]) (p0 := [1,1,0,1]) (id := 0) (by kernel_rfl) (st := fun (x : Nat × Nat) => [(0, iG z g e), (6, iI x.2), (7, iI (if x.1 = 0 then 0 else (termsN g r0.l : Int))), (12, iR z' (r0 :: tl) e'), (13, iI (r0 :: tl).length), (14, iI x.1)]) (I := fun x => x.1 ≤ (r0 :: tl).length ∧ x.2 ≤ 48 * x.1) (μ := fun x => (r0 :: tl).length - x.1)
      (res := fun x => if rowsF g (termsN g r0.l) ((r0 :: tl).drop x.1) = true then .norm [(0, iG z g e), (6, iI (x.2 + lenR ((r0 :: tl).drop x.1) : Nat)), (7, iI (termsN g r0.l)), (12, iR z' (r0 :: tl) e'), (13, iI (r0 :: tl).length), (14, iI (r0 :: tl).length)] else .ret [(4, iI 0), (5, iB false)])
      (fun x hx => by
        obtain ⟨i, k⟩ := x
        obtain ⟨hx1, hx2⟩ := hx
        dsimp only at hx1 hx2
        by_cases hi : i < (r0 :: tl).length
        · obtain ⟨r, hr1⟩ := at_lt hi
          have hd : (r0 :: tl).drop i = r :: (r0 :: tl).drop (i + 1) := by
            rw [List.drop_eq_getElem_cons hi]
            rw [List.getElem?_eq_getElem hi] at hr1
            cases hr1; rfl
          have h0r : i = 0 → r = r0 := fun h => by subst h; simp at hr1; exact hr1.symm
          have hm := w_row z r.z g e r.e r.l
          have hi' : (i : Int) < (r0 :: tl).length := by omega
          generalize r0 :: tl = ts at *
          cases hb : rowB g r.l
          · refine .stop (.ret [(4, iI 0), (5, iB false)]) (wpQ_way (q49_l0a _ _ z (syms g) e k _ z' (rws ts) e' _ i _) ?_) rfl ?_
            · rw [hb] at hm
              simp [-Bool.exists_bool, -getElem?_pos, hi', rws_at hr1, hm]
            · dsimp only; rw [hd]; simp [rowsF, hb, blkO]
          · have h48 := rowB_len hb
            rw [hb] at hm
            by_cases hn : termsN g r.l = termsN g r0.l
            · have hw : IntKind.wrap .i64 ((k : Int) + (r.l.length : Int)) = ((k + r.l.length : Nat) : Int) := by rw [wr _ (by omega) (by omega)]; omega
              refine .go (i + 1, k + r.l.length) (wpQ_way (q49_l0a _ _ z (syms g) e k _ z' (rws ts) e' _ i _) ?_) ⟨by dsimp only; omega, by dsimp only; omega⟩ (by dsimp only; omega) ?_
              · by_cases h0 : i = 0
                · simp [-Bool.exists_bool, -getElem?_pos, -Int.natCast_add, hi', rws_at hr1, hm, ints_len, hw, wr1 hi (by omega), hn, h0] at hr1 ⊢
                  subst h0
                  simp [-Bool.exists_bool, -getElem?_pos, -Int.natCast_add, hi', rws_at hr1, hm, ints_len, hw, wr1 hi (by omega), hn]
                  exact ⟨hi, wr _ (by omega) (by omega)⟩
                · simp [-Bool.exists_bool, -getElem?_pos, -Int.natCast_add, hi', rws_at hr1, hm, ints_len, hw, wr1 hi (by omega), hn, h0]
              · dsimp only; rw [hd]
                have h3 : rowsF g (termsN g r0.l) (r :: ts.drop (i + 1)) = rowsF g (termsN g r0.l) (ts.drop (i + 1)) := by simp [rowsF, hb, hn]
                rw [h3, lenR, ← Nat.add_assoc]
            · have h0 : ¬ i = 0 := fun h => hn (by rw [h0r h])
              have hn' : ¬ (termsN g r.l : Int) = termsN g r0.l := by omega
              refine .stop (.ret [(4, iI 0), (5, iB false)]) (wpQ_way (q49_l0a _ _ z (syms g) e k _ z' (rws ts) e' _ i _) ?_) rfl ?_
              · simp [-Bool.exists_bool, -getElem?_pos, hi', rws_at hr1, hm, h0, hn']
              · dsimp only; rw [hd]; simp [rowsF, hb, hn, blkO]
        · have e1 : i = (r0 :: tl).length := by omega
          have h0 : ¬ i = 0 := by simp at e1; omega
          refine .stop (.exit 0 [(0, iG z g e), (6, iI k), (7, iI (termsN g r0.l)), (12, iR z' (r0 :: tl) e'), (13, iI (r0 :: tl).length), (14, iI (r0 :: tl).length)]) (wpQ_way (q49_l0a _ _ z (syms g) e k _ z' (rws (r0 :: tl)) e' _ _ _) ?_) rfl ?_
          · subst e1; simp
          · subst e1; simp [blkO, rowsF, lenR]) x hx
    have h2 : evP F (Go.Ab.W F) (JW F d49 []) d49 [] [1,1,0,1] [(0, iG z g e), (6, iI 0), (7, iI 0), (12, iR z' (r0 :: tl) e'), (13, iI (r0 :: tl).length), (14, iI 0)] = _ := h1 (0, 0) ⟨Nat.zero_le _, Nat.le_refl _⟩
    rw [List.drop_zero, Nat.zero_add, ← hsp _ rfl] at h2
    generalize r0 :: tl = ts at *
    cases h : rowsB g ts
    · rw [h] at h2
      simp only [Bool.false_eq_true, if_false] at h2
      simp [-Bool.exists_bool, rws_len, h2]
    · rw [h] at h2
      simp only [if_true] at h2
      simp [-Bool.exists_bool, rws_len, h2]
theorem w_clmay (z : Bool) (g : List Sym) (e : List D) (c : Cl) : C 18 [iG z g e, iC c] = some (iB (clB g c), [iG z g e, iC c]) := by
  refine wfn (lk := []) rfl rfl (fnW_way (q18 _ _ z (syms g) e c.lz (lits c.ls) c.le c.tz (rws c.ts) c.te c.cz (lits c.cs) c.ce _) ?_)
  have h1 := w_may z g e
  cases hg : sigB g
  · simp [-Bool.exists_bool, h1, hg, clB]
  by_cases l1 : c.ls.length ≤ 5
  rotate_left
  · have l1' : 5 < (c.ls.length : Int) := by omega
    simp [-Bool.exists_bool, h1, hg, clB, lits_len, l1, l1']
  by_cases l2 : c.ts.length ≤ 3
  rotate_left
  · have l1' : ¬ 5 < (c.ls.length : Int) := by omega
    have l2' : 3 < (c.ts.length : Int) := by omega
    simp [-Bool.exists_bool, h1, hg, clB, lits_len, rws_len, l1, l1', l2, l2']
  by_cases l3 : c.cs.length ≤ 3
  rotate_left
  · have l1' : ¬ 5 < (c.ls.length : Int) := by omega
    have l2' : ¬ 3 < (c.ts.length : Int) := by omega
    have l3' : 3 < (c.cs.length : Int) := by omega
    simp [-Bool.exists_bool, h1, hg, clB, lits_len, rws_len, l1, l1', l2, l2', l3, l3']
  have l1' : ¬ 5 < (c.ls.length : Int) := by omega
  have l2' : ¬ 3 < (c.ts.length : Int) := by omega
  have l3' : ¬ 3 < (c.cs.length : Int) := by omega
  have h2 := w_litsmay z c.lz g e c.le (ls := c.ls) (by omega)
  have h3 := w_rowsmay z c.tz g e c.te (ts := c.ts) (by omega)
  have h4 := w_litsmay z c.cz g e c.ce (ls := c.cs) (by omega)
  cases b1 : litsB g c.ls
  · rw [b1] at h2
    cases b2 : rowsB g c.ts <;> cases b3 : litsB g c.cs <;> simp [-Bool.exists_bool, h1, hg, clB, lits_len, rws_len, l1, l1', l2, l2', l3, l3', h2, h3, h4, b1, b2, b3]
  cases b2 : rowsB g c.ts
  · rw [b2] at h3
    cases b3 : litsB g c.cs <;> simp [-Bool.exists_bool, h1, hg, clB, lits_len, rws_len, l1, l1', l2, l2', l3, l3', h2, h3, h4, b1, b2, b3]
  cases b3 : litsB g c.cs
  · simp [-Bool.exists_bool, h1, hg, clB, lits_len, rws_len, l1, l1', l2, l2', l3, l3', h2, h3, h4, b1, b2, b3]
  have k1 := lenL_le b1
  have k3 := lenL_le b3
  have k2 : lenR c.ts ≤ 48 * c.ts.length := by
    cases ht : c.ts with
    | nil => simp [lenR]
    | cons r tl => rw [ht] at b2; exact lenR_le b2
  rw [b1] at h2; rw [b2] at h3; rw [b3] at h4
  simp only [if_true] at h2 h3 h4
  have hw : IntKind.wrap .i64 (IntKind.wrap .i64 ((lenL c.ls : Int) + (lenR c.ts : Int)) + (lenL c.cs : Int)) = ((lenL c.ls + lenR c.ts + lenL c.cs : Nat) : Int) := by
    rw [wr ((lenL c.ls : Int) + (lenR c.ts : Int)) (by omega) (by omega), wr _ (by omega) (by omega)]; omega
  by_cases k : lenL c.ls + lenR c.ts + lenL c.cs ≤ 240
  · have k' : ((lenL c.ls + lenR c.ts + lenL c.cs : Nat) : Int) ≤ 240 := by omega
    simp [-Bool.exists_bool, -Int.natCast_add, h1, hg, clB, lits_len, rws_len, l1, l1', l2, l2', l3, l3', h2, h3, h4, b1, b2, b3, hw, k, k']
  · have k' : ¬ ((lenL c.ls + lenR c.ts + lenL c.cs : Nat) : Int) ≤ 240 := by omega
    simp [-Bool.exists_bool, -Int.natCast_add, h1, hg, clB, lits_len, rws_len, l1, l1', l2, l2', l3, l3', h2, h3, h4, b1, b2, b3, hw, k, k']
    omega
end Go.Proofs.YtjhganbjbiihoaaDoor.Ab

/- Literals, clauses: what the reference's functions hand back; weights; copies. For every input; no condition. -/
set_option linter.unusedVariables false
set_option linter.unusedSimpArgs false
set_option maxRecDepth 100000
namespace Go.Proofs.YtjhganbjbiihoaaDoor.Ab
open Go Go.Ab Go.Qu Go.Proofs
attribute [local simp] and_assoc
theorem atom_sig {g : List Sym} {a : List Int} (h : atomB g a = true) : sigB g = true := by
  cases a with
  | nil => simp [atomB] at h
  | cons p r =>
    simp only [atomB] at h
    split at h
    · cases h
    · split at h
      · cases h
      · simp only [Bool.and_eq_true] at h; exact h.1.2
/-- All rows of a clause. -/
def rowsOf (c : Cl) : List Row := c.ls.map (·.r) ++ c.ts ++ c.cs.map (·.r)
theorem w_rrows {c : Cl} (l1 : c.ls.length ≤ 1000) (l2 : c.ts.length ≤ 1000) (l3 : c.cs.length ≤ 1000) : C 53 [iC c] = some (.own (rowsOf c).isEmpty 33 1 (rws (rowsOf c)), [iC c]) := by
  refine wfn (lk := []) rfl rfl (fnW_way (q53 _ _ c.lz (lits c.ls) c.le c.tz (rws c.ts) c.te c.cz (lits c.cs) c.ce _) ?_)
  have h1 := blk_fun (F := F) (d := d53) (lk := []) (p := [1,1,0,1,0,0]) (p0 := [1,1,0,1]) (id := 0) (by kernel_rfl) (st := fun (i : Nat) => [(1, .dbox 26 0 [.sl 2 c.lz (lits c.ls) c.le, .sl 1 c.tz (rws c.ts) c.te, .sl 2 c.cz (lits c.cs) c.ce]), (3, .own (c.ls.take i).isEmpty 33 1 (rws ((c.ls.take i).map (·.r)))), (4, iI i)]) (I := fun i => i ≤ c.ls.length) (μ := fun i => c.ls.length - i)
    (res := fun _ => .norm [(1, .dbox 26 0 [.sl 2 c.lz (lits c.ls) c.le, .sl 1 c.tz (rws c.ts) c.te, .sl 2 c.cz (lits c.cs) c.ce]), (3, .own c.ls.isEmpty 33 1 (rws (c.ls.map (·.r)))), (4, iI c.ls.length)])
    (fun i hi => by
      by_cases h : i < c.ls.length
      · obtain ⟨l, hl⟩ := at_lt h
        have e1 : c.ls.take (i + 1) = c.ls.take i ++ [l] := by rw [List.take_add_one, hl]; rfl
        have e2 : (rws ((c.ls.take i).map (·.r))).length = i := by rw [rws_len, List.length_map, List.length_take]; omega
        have hi' : (i : Int) < c.ls.length := by omega
        refine .go (i + 1) (wpQ_way (q53_l0a _ _ c.lz (lits c.ls) c.le c.tz (rws c.ts) c.te c.cz (lits c.cs) c.ce _ _ i _) ?_) h (by omega) rfl
        simp [-Bool.exists_bool, -getElem?_pos, -Int.natCast_add, -List.map_take, lits_len, hi', lits_at hl, wr1 h (by omega), e1, rws_append, rws_cons, rws_nil, e2]
        omega
      · have e1 : i = c.ls.length := by omega
        subst e1
        refine .stop (.exit 0 [(1, .dbox 26 0 [.sl 2 c.lz (lits c.ls) c.le, .sl 1 c.tz (rws c.ts) c.te, .sl 2 c.cz (lits c.cs) c.ce]), (3, .own c.ls.isEmpty 33 1 (rws (c.ls.map (·.r)))), (4, iI c.ls.length)]) (wpQ_way (q53_l0a _ _ c.lz (lits c.ls) c.le c.tz (rws c.ts) c.te c.cz (lits c.cs) c.ce _ _ _ _) ?_) rfl rfl
        simp [lits_len]) 0 (Nat.zero_le _)
  have h2 := blk_fun (F := F) (d := d53) (lk := []) (p := [1,1,1,0,1,0,0]) (p0 := [1,1,1,0,1]) (id := 2) (by kernel_rfl) (st := fun (i : Nat) => [(1, .dbox 26 0 [.sl 2 c.lz (lits c.ls) c.le, .sl 1 c.tz (rws c.ts) c.te, .sl 2 c.cz (lits c.cs) c.ce]), (3, .own (c.ls.isEmpty && (c.ts.take i).isEmpty) 33 1 (rws (c.ls.map (·.r) ++ c.ts.take i))), (5, iI i)]) (I := fun i => i ≤ c.ts.length) (μ := fun i => c.ts.length - i)
    (res := fun _ => .norm [(1, .dbox 26 0 [.sl 2 c.lz (lits c.ls) c.le, .sl 1 c.tz (rws c.ts) c.te, .sl 2 c.cz (lits c.cs) c.ce]), (3, .own (c.ls.isEmpty && c.ts.isEmpty) 33 1 (rws (c.ls.map (·.r) ++ c.ts))), (5, iI c.ts.length)])
    (fun i hi => by
      by_cases h : i < c.ts.length
      · obtain ⟨l, hl⟩ := at_lt h
        have e1 : c.ts.take (i + 1) = c.ts.take i ++ [l] := by rw [List.take_add_one, hl]; rfl
        have e2 : (rws (c.ls.map (·.r) ++ c.ts.take i)).length = c.ls.length + i := by rw [rws_len, List.length_append, List.length_map, List.length_take]; omega
        have hi' : (i : Int) < c.ts.length := by omega
        refine .go (i + 1) (wpQ_way (q53_l2b _ _ c.lz (lits c.ls) c.le c.tz (rws c.ts) c.te c.cz (lits c.cs) c.ce _ _ i _) ?_) h (by omega) rfl
        have e3 : rws (c.ls.map (·.r) ++ c.ts.take (i + 1)) = rws (c.ls.map (·.r) ++ c.ts.take i) ++ [.sl 1 l.z (ints l.l) l.e] := by rw [e1, ← List.append_assoc, rws_append]; rfl
        simp [-Bool.exists_bool, -getElem?_pos, -Int.natCast_add, -List.map_take, rws_len, hi', rws_at hl, wr1 h (by omega), e2, e3]
        exact ⟨by omega, by omega, fun _ he => by rw [he] at h; simp at h⟩
      · have e1 : i = c.ts.length := by omega
        subst e1
        refine .stop (.exit 2 [(1, .dbox 26 0 [.sl 2 c.lz (lits c.ls) c.le, .sl 1 c.tz (rws c.ts) c.te, .sl 2 c.cz (lits c.cs) c.ce]), (3, .own (c.ls.isEmpty && c.ts.isEmpty) 33 1 (rws (c.ls.map (·.r) ++ c.ts))), (5, iI c.ts.length)]) (wpQ_way (q53_l2b _ _ c.lz (lits c.ls) c.le c.tz (rws c.ts) c.te c.cz (lits c.cs) c.ce _ _ _ _) ?_) rfl rfl
        simp [rws_len]) 0 (Nat.zero_le _)
  have h3 := blk_fun (F := F) (d := d53) (lk := []) (p := [1,1,1,1,0,1,0,0]) (p0 := [1,1,1,1,0,1]) (id := 4) (by kernel_rfl) (st := fun (i : Nat) => [(1, .dbox 26 0 [.sl 2 c.lz (lits c.ls) c.le, .sl 1 c.tz (rws c.ts) c.te, .sl 2 c.cz (lits c.cs) c.ce]), (3, .own ((c.ls.isEmpty && c.ts.isEmpty) && (c.cs.take i).isEmpty) 33 1 (rws ((c.ls.map (·.r) ++ c.ts) ++ (c.cs.take i).map (·.r)))), (6, iI i)]) (I := fun i => i ≤ c.cs.length) (μ := fun i => c.cs.length - i)
    (res := fun _ => .norm [(1, .dbox 26 0 [.sl 2 c.lz (lits c.ls) c.le, .sl 1 c.tz (rws c.ts) c.te, .sl 2 c.cz (lits c.cs) c.ce]), (3, .own ((c.ls.isEmpty && c.ts.isEmpty) && c.cs.isEmpty) 33 1 (rws ((c.ls.map (·.r) ++ c.ts) ++ c.cs.map (·.r)))), (6, iI c.cs.length)])
    (fun i hi => by
      by_cases h : i < c.cs.length
      · obtain ⟨l, hl⟩ := at_lt h
        have e1 : c.cs.take (i + 1) = c.cs.take i ++ [l] := by rw [List.take_add_one, hl]; rfl
        have e2 : (rws ((c.ls.map (·.r) ++ c.ts) ++ (c.cs.take i).map (·.r))).length = c.ls.length + c.ts.length + i := by rw [rws_len, List.length_append, List.length_append, List.length_map, List.length_map, List.length_take]; omega
        have hi' : (i : Int) < c.cs.length := by omega
        refine .go (i + 1) (wpQ_way (q53_l4b _ _ c.lz (lits c.ls) c.le c.tz (rws c.ts) c.te c.cz (lits c.cs) c.ce _ _ i _) ?_) h (by omega) rfl
        have e3 : rws ((c.ls.map (·.r) ++ c.ts) ++ (c.cs.take (i + 1)).map (·.r)) = rws ((c.ls.map (·.r) ++ c.ts) ++ (c.cs.take i).map (·.r)) ++ [.sl 1 l.r.z (ints l.r.l) l.r.e] := by rw [e1, List.map_append, ← List.append_assoc, rws_append]; rfl
        simp [-Bool.exists_bool, -getElem?_pos, -Int.natCast_add, -List.map_take, -List.append_assoc, lits_len, hi', lits_at hl, wr1 h (by omega), e2, e3]
        exact ⟨by omega, by omega, fun _ _ he => by rw [he] at h; simp at h⟩
      · have e1 : i = c.cs.length := by omega
        subst e1
        refine .stop (.exit 4 [(1, .dbox 26 0 [.sl 2 c.lz (lits c.ls) c.le, .sl 1 c.tz (rws c.ts) c.te, .sl 2 c.cz (lits c.cs) c.ce]), (3, .own ((c.ls.isEmpty && c.ts.isEmpty) && c.cs.isEmpty) 33 1 (rws ((c.ls.map (·.r) ++ c.ts) ++ c.cs.map (·.r)))), (6, iI c.cs.length)]) (wpQ_way (q53_l4b _ _ c.lz (lits c.ls) c.le c.tz (rws c.ts) c.te c.cz (lits c.cs) c.ce _ _ _ _) ?_) rfl rfl
        simp [lits_len]) 0 (Nat.zero_le _)
  have h1' : evP F (Go.Ab.W F) (JW F d53 []) d53 [] [1,1,0,1] [(1, .dbox 26 0 [.sl 2 c.lz (lits c.ls) c.le, .sl 1 c.tz (rws c.ts) c.te, .sl 2 c.cz (lits c.cs) c.ce]), (3, .own true 33 1 []), (4, iI 0)] = _ := h1
  have h2' := h2
  simp only [List.take_zero, List.append_nil, List.isEmpty_nil, Bool.and_true, Int.natCast_zero] at h2'
  have h3' := h3
  simp only [List.take_zero, List.map_nil, List.append_nil, List.isEmpty_nil, Bool.and_true, Int.natCast_zero] at h3'
  have hz : (rowsOf c).isEmpty = ((c.ls.isEmpty && c.ts.isEmpty) && c.cs.isEmpty) := by
    unfold rowsOf
    cases c.ls <;> cases c.ts <;> cases c.cs <;> simp
  refine ⟨_, _, _, _, _, _, _, _, _, _, _, _, h1', _, _, _, _, _, _, _, _, _, _, _, _, h2', _, _, _, _, _, _, _, _, _, _, _, _, h3', ?_⟩
  rw [hz]; rfl
end Go.Proofs.YtjhganbjbiihoaaDoor.Ab

/- Clauses: copies; the same. For every input; no condition. -/
set_option linter.unusedVariables false
set_option linter.unusedSimpArgs false
set_option maxRecDepth 100000
namespace Go.Proofs.YtjhganbjbiihoaaDoor.Ab
open Go Go.Ab Go.Qu Go.Proofs
attribute [local simp] and_assoc
def LitsIn (ls : List LitR) : Prop := ls.length * 32 ≤ 140737488351232 ∧ ∀ l ∈ ls, Len l.r.l
/-- What counts of literals. -/
def ks (l : LitR) : Bool × List Int := (l.neg, l.r.l)
theorem w_samelits {a : List LitR} (ha : LitsIn a) (b : List LitR) (z z' : Bool) (e e' : List D) : C 54 [iL z a e, iL z' b e'] = some (iB (decide (a.map ks = b.map ks)), [iL z a e, iL z' b e']) := by
  obtain ⟨hn, hr⟩ := ha
  refine wfn (lk := []) rfl rfl (fnW_way (q54 _ _ z (lits a) e z' (lits b) e' _) ?_)
  by_cases hl : a.length = b.length
  rotate_left
  · have e1 : ¬ (a.length : Int) = b.length := by omega
    have e2 : ¬ a.map ks = b.map ks := fun h => hl (by have := congrArg List.length h; simpa using this)
    simp [lits_len, e1, e2]
  rcases blk_all (F := F) (d := d54) (lk := []) (p := [1,1,0,1,0,0]) (p0 := [1,1,0,1]) (by kernel_rfl) (n := a.length) (id := 0) (st := fun i => [(0, iL z a e), (1, iL z' b e'), (5, iI i)]) (q := fun i => (a[i]?.map ks) == (b[i]?.map ks)) (rt := [(4, iB false)]) (e := [(0, iL z a e), (1, iL z' b e'), (5, iI a.length)])
    (fun i hi hq => by
      obtain ⟨x, hx⟩ := at_lt hi
      obtain ⟨y, hy⟩ := at_lt (show i < b.length by omega)
      have hxa := lits_at hx; have hya := lits_at hy
      simp [hx, hy, ks] at hq
      have hs := w_sameints (hr x (List.mem_of_getElem? hx)) y.r.l x.r.z y.r.z x.r.e y.r.e
      have hi' : (i : Int) < a.length := by omega
      rw [hq.2] at hs hxa
      refine wpQ_way (q54_l0a _ _ z (lits a) e z' (lits b) e' i _) ?_
      rw [hq.1] at hxa
      cases hneg : y.neg <;> rw [hneg] at hxa hya <;> simp [-Bool.exists_bool, -getElem?_pos, -Int.natCast_add, lits_len, wr1 hi (by omega), hi', hxa, hya, hs])
    (fun i hi hq => by
      obtain ⟨x, hx⟩ := at_lt hi
      obtain ⟨y, hy⟩ := at_lt (show i < b.length by omega)
      have hxa := lits_at hx; have hya := lits_at hy
      simp [hx, hy, ks] at hq
      have hs := w_sameints (hr x (List.mem_of_getElem? hx)) y.r.l x.r.z y.r.z x.r.e y.r.e
      have hi' : (i : Int) < a.length := by omega
      refine wpQ_way (q54_l0a _ _ z (lits a) e z' (lits b) e' i _) ?_
      cases hnx : x.neg <;> cases hny : y.neg <;> rw [hnx] at hxa <;> rw [hny] at hya <;> simp [hnx, hny] at hq <;> simp [-Bool.exists_bool, -getElem?_pos, -Int.natCast_add, lits_len, hi', hxa, hya, hs, hq])
    (wpQ_way (q54_l0a _ _ z (lits a) e z' (lits b) e' a.length _) (by simp [lits_len])) 0 (Nat.zero_le _) with ⟨h2, h3⟩ | ⟨⟨j, h2, h4, h5⟩, h3⟩
  · have hab : a.map ks = b.map ks := by
      refine List.ext_getElem? (fun i => ?_)
      by_cases hi : i < a.length
      · have := h2 i (Nat.zero_le _) hi
        simpa using this
      · rw [List.getElem?_eq_none (by simpa using hi), List.getElem?_eq_none (by simp; omega)]
    simp at h3
    simp [lits_len, hl, hab, h3]
  · have hab : ¬ a.map ks = b.map ks := fun h => by
      have := congrArg (·[j]?) h
      simp at this h5
      exact h5 this
    simp at h3
    simp [lits_len, hl, hab, h3]
/-- What a clause is made of. -/
structure ClIn (c : Cl) : Prop where
  ls : LitsIn c.ls
  most : c.ts.length * 24 ≤ 140737488351232
  rows : ∀ r ∈ c.ts, Len r.l
  cs : LitsIn c.cs
def clKey (c : Cl) : List (Bool × List Int) × List (List Int) × List (Bool × List Int) := (c.ls.map ks, c.ts.map (·.l), c.cs.map ks)
theorem w_sameclause {c : Cl} (h : ClIn c) (c' : Cl) : C 22 [iC c, iC c'] = some (iB (decide (clKey c = clKey c')), [iC c, iC c']) := by
  refine wfn (lk := []) rfl rfl (fnW_way (q22 _ _ c.lz (lits c.ls) c.le c.tz (rws c.ts) c.te c.cz (lits c.cs) c.ce c'.lz (lits c'.ls) c'.le c'.tz (rws c'.ts) c'.te c'.cz (lits c'.cs) c'.ce _) ?_)
  have h1 := w_samelits h.ls c'.ls c.lz c'.lz c.le c'.le
  have h2 := w_samerows h.most h.rows c'.ts c.tz c'.tz c.te c'.te
  have h3 := w_samelits h.cs c'.cs c.cz c'.cz c.ce c'.ce
  refine ⟨_, _, _, h1, ?_⟩
  by_cases k1 : c.ls.map ks = c'.ls.map ks
  rotate_left
  · simp [k1, clKey]
  rw [decide_eq_true k1, condW_tt]
  refine ⟨_, _, _, h2, ?_⟩
  by_cases k2 : c.ts.map (·.l) = c'.ts.map (·.l)
  rotate_left
  · simp [k2, clKey]
  rw [decide_eq_true k2, condW_tt]
  refine ⟨_, _, _, h3, ?_⟩
  by_cases k3 : c.cs.map ks = c'.cs.map ks
  · simp [k1, k2, k3, clKey]
  · simp [k3, clKey]
end Go.Proofs.YtjhganbjbiihoaaDoor.Ab

/- Clauses in their own form: each part once, variables numbered anew; what they are the same in. Plain lists; no condition. -/
set_option linter.unusedVariables false
set_option linter.unusedSimpArgs false
namespace Go.Qu
open Go Go.Ab

/-! ### Each once -/
/-- Rows of things of which none has the key of one ahead of it. -/
def onceK {α β : Type} [DecidableEq β] (k : α → β) : List α → List α → List α
  | out, [] => out
  | out, x :: r => if k x ∈ out.map k then onceK k out r else onceK k (out ++ [x]) r
theorem once_map {α β : Type} [DecidableEq β] (k : α → β) : ∀ (r out : List α), (onceK k out r).map k = onceK id (out.map k) (r.map k)
  | [], out => by simp [onceK]
  | x :: r, out => by
    simp only [onceK, List.map_cons, id_eq, List.map_id]
    by_cases h : k x ∈ out.map k
    · rw [if_pos h, if_pos (by simpa using h)]; exact once_map k r out
    · rw [if_neg h, if_neg (by simpa using h), once_map k r (out ++ [x])]; simp
theorem mem_once {β : Type} [DecidableEq β] : ∀ (r out : List β) (y : β), y ∈ onceK id out r ↔ y ∈ out ∨ y ∈ r
  | [], out, y => by simp [onceK]
  | x :: r, out, y => by
    simp only [onceK, id_eq, List.map_id]
    by_cases h : x ∈ out
    · rw [if_pos (by simpa using h), mem_once r out y]
      constructor
      · rintro (h1 | h1)
        · exact .inl h1
        · exact .inr (by simp [h1])
      · rintro (h1 | h1)
        · exact .inl h1
        · rcases List.mem_cons.1 h1 with h2 | h2
          · exact .inl (h2 ▸ h)
          · exact .inr h2
    · rw [if_neg (by simpa using h), mem_once r (out ++ [x]) y]; simp [or_assoc]
theorem once_nodup {β : Type} [DecidableEq β] : ∀ (r out : List β), out.Nodup → (onceK id out r).Nodup
  | [], out, h => by simpa [onceK] using h
  | x :: r, out, h => by
    simp only [onceK, id_eq, List.map_id]
    by_cases h1 : x ∈ out
    · rw [if_pos (by simpa using h1)]; exact once_nodup r out h
    · rw [if_neg (by simpa using h1)]
      refine once_nodup r _ ?_
      rw [List.nodup_append]
      exact ⟨h, by simp, fun a ha b hb => by simp at hb; subst hb; exact fun e => h1 (e ▸ ha)⟩
theorem once_same {β : Type} [DecidableEq β] : ∀ (r out : List β), (out ++ r).Nodup → onceK id out r = out ++ r
  | [], out, h => by simp [onceK]
  | x :: r, out, h => by
    have h1 : x ∉ out := fun hx => by
      rw [List.nodup_append] at h
      exact h.2.2 x hx x (by simp) rfl
    simp only [onceK, id_eq, List.map_id]
    rw [if_neg (by simpa using h1), once_same r (out ++ [x]) (by simpa using h)]; simp
/-- What is told of things alike is the same once through a way that holds them apart. -/
theorem once_inj {β γ : Type} [DecidableEq β] [DecidableEq γ] (f : β → γ) : ∀ (r out : List β), (∀ a ∈ out ++ r, ∀ b ∈ out ++ r, f a = f b → a = b) → onceK id (out.map f) (r.map f) = (onceK id out r).map f
  | [], out, h => by simp [onceK]
  | x :: r, out, h => by
    simp only [onceK, List.map_cons, id_eq, List.map_id]
    by_cases h1 : x ∈ out
    · rw [if_pos (List.mem_map_of_mem h1), if_pos h1]
      exact once_inj f r out (fun a ha b hb => h a (by simp at ha ⊢; rcases ha with h | h <;> simp [h]) b (by simp at hb ⊢; rcases hb with h | h <;> simp [h]))
    · rw [if_neg, if_neg h1]
      · have := once_inj f r (out ++ [x]) (fun a ha b hb => h a (by simpa using ha) b (by simpa using hb))
        rw [List.map_append] at this
        exact this
      · intro hm
        obtain ⟨y, hy, he⟩ := List.mem_map.1 hm
        have := h y (by simp [hy]) x (by simp) he
        exact h1 (this ▸ hy)
theorem once_len {α β : Type} [DecidableEq β] (k : α → β) : ∀ (r out : List α), (onceK k out r).length ≤ out.length + r.length
  | [], out => by simp [onceK]
  | x :: r, out => by
    simp only [onceK]
    split
    · have := once_len k r out; simp; omega
    · have := once_len k r (out ++ [x]); simp at this ⊢; omega
theorem once_sub {α β : Type} [DecidableEq β] (k : α → β) : ∀ (r out : List α) (y : α), y ∈ onceK k out r → y ∈ out ∨ y ∈ r
  | [], out, y, h => by simpa [onceK] using h
  | x :: r, out, y, h => by
    simp only [onceK] at h
    split at h
    · rcases once_sub k r out y h with h | h
      · exact .inl h
      · exact .inr (by simp [h])
    · rcases once_sub k r _ y h with h | h
      · simp at h; rcases h with h | h
        · exact .inl h
        · exact .inr (by simp [h])
      · exact .inr (by simp [h])
/-! ### Variables numbered anew -/
def addS (s : List Int) (c : Int) : List Int := if 0 ≤ c then s else if c ∈ s then s else s ++ [c]
def seenR (s : List Int) (r : List Int) : List Int := r.foldl addS s
def seenRs (s : List Int) (rs : List (List Int)) : List Int := rs.foldl seenR s
def renC (s : List Int) (c : Int) : Int := if 0 ≤ c then c else -1 - (s.idxOf c : Nat)
def renR (s : List Int) (r : List Int) : List Int := r.map (renC s)
theorem mem_addS {s : List Int} {c x : Int} : x ∈ addS s c ↔ x ∈ s ∨ (x = c ∧ c < 0) := by
  unfold addS
  split
  · constructor
    · exact .inl
    · rintro (h | ⟨h, h1⟩)
      · exact h
      · omega
  · split
    · constructor
      · exact .inl
      · rintro (h | ⟨h, h1⟩)
        · exact h
        · subst h; assumption
    · simp; constructor
      · rintro (h | h)
        · exact .inl h
        · exact .inr ⟨h, by omega⟩
      · rintro (h | ⟨h, h1⟩)
        · exact .inl h
        · exact .inr h
theorem mem_seenR : ∀ {r s : List Int} {x : Int}, x ∈ seenR s r ↔ x ∈ s ∨ (x ∈ r ∧ x < 0)
  | [], s, x => by simp [seenR]
  | c :: r, s, x => by
    have := mem_seenR (r := r) (s := addS s c) (x := x)
    rw [show seenR s (c :: r) = seenR (addS s c) r from rfl, this, mem_addS]
    constructor
    · rintro ((h | ⟨h, h1⟩) | ⟨h, h1⟩)
      · exact .inl h
      · exact .inr ⟨by simp [h], by omega⟩
      · exact .inr ⟨by simp [h], h1⟩
    · rintro (h | ⟨h, h1⟩)
      · exact .inl (.inl h)
      · rcases List.mem_cons.1 h with h2 | h2
        · exact .inl (.inr ⟨h2, by omega⟩)
        · exact .inr ⟨h2, h1⟩
theorem mem_seenRs : ∀ {rs : List (List Int)} {s : List Int} {x : Int}, x ∈ seenRs s rs ↔ x ∈ s ∨ (x < 0 ∧ ∃ r ∈ rs, x ∈ r)
  | [], s, x => by simp [seenRs]
  | r :: rs, s, x => by
    have := mem_seenRs (rs := rs) (s := seenR s r) (x := x)
    rw [show seenRs s (r :: rs) = seenRs (seenR s r) rs from rfl, this, mem_seenR]
    constructor
    · rintro ((h | ⟨h, h1⟩) | ⟨h1, t, ht, h⟩)
      · exact .inl h
      · exact .inr ⟨h1, r, by simp, h⟩
      · exact .inr ⟨h1, t, by simp [ht], h⟩
    · rintro (h | ⟨h1, t, ht, h⟩)
      · exact .inl (.inl h)
      · rcases List.mem_cons.1 ht with h2 | h2
        · subst h2; exact .inl (.inr ⟨h, h1⟩)
        · exact .inr ⟨h1, t, h2, h⟩
theorem nodup_addS {s : List Int} {c : Int} (h : s.Nodup) : (addS s c).Nodup := by
  unfold addS
  split
  · exact h
  · split
    · exact h
    · rename_i h1
      rw [List.nodup_append]
      exact ⟨h, by simp, fun a ha b hb => by simp at hb; subst hb; exact fun e => h1 (e ▸ ha)⟩
theorem nodup_seenR : ∀ {r s : List Int}, s.Nodup → (seenR s r).Nodup
  | [], s, h => h
  | c :: r, s, h => nodup_seenR (r := r) (nodup_addS h)
theorem nodup_seenRs : ∀ {rs : List (List Int)} {s : List Int}, s.Nodup → (seenRs s rs).Nodup
  | [], s, h => h
  | r :: rs, s, h => nodup_seenRs (rs := rs) (nodup_seenR h)
/-- What is seen later stands behind. -/
theorem pre_addS (s : List Int) (c : Int) : ∃ t, addS s c = s ++ t := by
  unfold addS
  split
  · exact ⟨[], by simp⟩
  · split
    · exact ⟨[], by simp⟩
    · exact ⟨_, rfl⟩
theorem pre_seenR : ∀ (r s : List Int), ∃ t, seenR s r = s ++ t
  | [], s => ⟨[], by simp [seenR]⟩
  | c :: r, s => by
    obtain ⟨t, ht⟩ := pre_addS s c
    obtain ⟨u, hu⟩ := pre_seenR r (addS s c)
    exact ⟨t ++ u, by rw [show seenR s (c :: r) = seenR (addS s c) r from rfl, hu, ht, List.append_assoc]⟩
theorem pre_seenRs : ∀ (rs : List (List Int)) (s : List Int), ∃ t, seenRs s rs = s ++ t
  | [], s => ⟨[], by simp [seenRs]⟩
  | r :: rs, s => by
    obtain ⟨t, ht⟩ := pre_seenR r s
    obtain ⟨u, hu⟩ := pre_seenRs rs (seenR s r)
    exact ⟨t ++ u, by rw [show seenRs s (r :: rs) = seenRs (seenR s r) rs from rfl, hu, ht, List.append_assoc]⟩
theorem idx_pre {s : List Int} (t : List Int) {c : Int} (h : c ∈ s) : (s ++ t).idxOf c = s.idxOf c := by
  rw [List.idxOf_append, if_pos h]
theorem ren_pre {s : List Int} (t : List Int) {c : Int} (h : c < 0 → c ∈ s) : renC (s ++ t) c = renC s c := by
  unfold renC
  split
  · rfl
  · rw [idx_pre t (h (by omega))]
theorem renR_pre {s : List Int} (t : List Int) {r : List Int} (h : ∀ c ∈ r, c < 0 → c ∈ s) : renR (s ++ t) r = renR s r :=
  List.map_congr_left fun c hc => ren_pre t (h c hc)
theorem ren_neg (s : List Int) (c : Int) : renC s c < 0 ↔ c < 0 := by unfold renC; split <;> omega
theorem ren_inj {s : List Int} {a b : Int} (ha : a < 0 → a ∈ s) (hb : b < 0 → b ∈ s) (h : renC s a = renC s b) : a = b := by
  by_cases h1 : 0 ≤ a <;> by_cases h2 : 0 ≤ b
  · simpa [renC, h1, h2] using h
  · simp [renC, h1, h2] at h; omega
  · simp [renC, h1, h2] at h; omega
  · simp only [renC, if_neg h1, if_neg h2] at h
    have h3 : s.idxOf a = s.idxOf b := by omega
    have k1 := List.getElem_idxOf (List.idxOf_lt_length_of_mem (ha (by omega)))
    have k2 := List.getElem_idxOf (List.idxOf_lt_length_of_mem (hb (by omega)))
    rw [← k1, ← k2]
    simp only [h3]
theorem renR_inj {s : List Int} : ∀ {a b : List Int}, (∀ c ∈ a, c < 0 → c ∈ s) → (∀ c ∈ b, c < 0 → c ∈ s) → renR s a = renR s b → a = b
  | [], [], _, _, _ => rfl
  | [], _ :: _, _, _, h => by simp [renR] at h
  | _ :: _, [], _, _, h => by simp [renR] at h
  | x :: a, y :: b, ha, hb, h => by
    simp only [renR, List.map_cons, List.cons.injEq] at h
    rw [ren_inj (ha x (by simp)) (hb y (by simp)) h.1, renR_inj (fun c hc => ha c (by simp [hc])) (fun c hc => hb c (by simp [hc])) h.2]
/-- The first so many variables. -/
def firsts (n : Nat) : List Int := (List.range n).map fun (i : Nat) => -1 - (i : Int)
theorem firsts_len (n : Nat) : (firsts n).length = n := by simp [firsts]
theorem firsts_succ (n : Nat) : firsts (n + 1) = firsts n ++ [-1 - (n : Int)] := by simp [firsts, List.range_succ]
theorem mem_firsts {n : Nat} {c : Int} : c ∈ firsts n ↔ c < 0 ∧ -1 - c < n := by
  simp only [firsts, List.mem_map, List.mem_range]
  constructor
  · rintro ⟨i, hi, h⟩; omega
  · intro h; exact ⟨(-1 - c).toNat, by omega, by omega⟩
theorem idx_firsts : ∀ {n : Nat} {c : Int}, c < 0 → -1 - c < n → ((firsts n).idxOf c : Int) = -1 - c
  | 0, c, h, h1 => by omega
  | n + 1, c, h, h1 => by
    rw [firsts_succ, List.idxOf_append]
    by_cases h2 : -1 - c < n
    · rw [if_pos (mem_firsts.2 ⟨h, h2⟩)]; exact idx_firsts h h2
    · rw [if_neg (fun h3 => h2 (mem_firsts.1 h3).2), firsts_len]
      have : c = -1 - (n : Int) := by omega
      subst this
      simp
      omega
/-- Of rows numbered anew the variables are the first ones. -/
theorem seen_ren_add {s : List Int} (t : List Int) {c : Int} (hs : (addS s c ++ t).Nodup) : addS (firsts s.length) (renC (addS s c ++ t) c) = firsts (addS s c).length := by
  unfold addS
  by_cases h0 : 0 ≤ c
  · have : renC (s ++ t) c = c := by simp [renC, h0]
    simp [h0, this]
  · by_cases h : c ∈ s
    · have h1 : renC (s ++ t) c = -1 - (s.idxOf c : Nat) := by simp [renC, h0, idx_pre t h]
      have h2 := List.idxOf_lt_length_of_mem h
      simp only [if_neg h0, if_pos h]
      rw [h1, if_neg (by omega), if_pos (mem_firsts.2 ⟨by omega, by omega⟩)]
    · have h1 : renC ((s ++ [c]) ++ t) c = -1 - (s.length : Nat) := by
        have : ((s ++ [c]) ++ t).idxOf c = s.length := by
          rw [List.append_assoc, List.idxOf_append, if_neg h]; simp
        rw [renC, if_neg h0, this]
      simp only [if_neg h0, if_neg h]
      rw [h1, if_neg (by omega), if_neg (fun h3 => by have := (mem_firsts.1 h3).2; omega), List.length_append, List.length_singleton, firsts_succ]
theorem seen_ren : ∀ (r s t : List Int), seenR (firsts s.length) (renR (seenR s r ++ t) r) = firsts (seenR s r).length ∨ ¬ (seenR s r ++ t).Nodup
  | [], s, t => by simp [seenR, renR]
  | c :: r, s, t => by
    by_cases hn : (seenR s (c :: r) ++ t).Nodup
    · left
      have e1 : seenR s (c :: r) = seenR (addS s c) r := rfl
      rw [e1] at hn ⊢
      obtain ⟨u, hu⟩ := pre_seenR r (addS s c)
      have h1 := seen_ren r (addS s c) t
      rcases h1 with h1 | h1
      · have h2 : addS (firsts s.length) (renC (seenR (addS s c) r ++ t) c) = firsts (addS s c).length := by
          rw [hu, List.append_assoc]
          exact seen_ren_add (u ++ t) (by rw [← List.append_assoc, ← hu]; exact hn)
        rw [← h1, ← h2]; rfl
      · exact absurd hn h1
    · exact .inr hn
theorem seens_ren : ∀ (rs : List (List Int)) (s t : List Int), (seenRs s rs ++ t).Nodup → seenRs (firsts s.length) (rs.map (renR (seenRs s rs ++ t))) = firsts (seenRs s rs).length
  | [], s, t, _ => rfl
  | r :: rs, s, t, hn => by
    have e1 : seenRs s (r :: rs) = seenRs (seenR s r) rs := rfl
    rw [e1] at hn ⊢
    obtain ⟨u, hu⟩ := pre_seenRs rs (seenR s r)
    have h1 := seens_ren rs (seenR s r) t hn
    rcases seen_ren r s (u ++ t) with h2 | h2
    · rw [← List.append_assoc, ← hu] at h2
      rw [← h1, ← h2]; rfl
    · rw [← List.append_assoc, ← hu] at h2; exact absurd hn h2
theorem ren_firsts {n : Nat} {c : Int} (h : c < 0 → -1 - c < n) : renC (firsts n) c = c := by
  unfold renC
  split
  · rfl
  · rw [idx_firsts (by omega) (h (by omega))]; omega
end Go.Qu

/- The normal clause: it may be, it is its own normal one, it weighs no more, its variables are the first ones. Plain lists; no condition. -/
set_option linter.unusedVariables false
set_option linter.unusedSimpArgs false
namespace Go.Qu
open Go Go.Ab

theorem sub_len {α : Type} [DecidableEq α] : ∀ (s t : List α), s.Nodup → (∀ x ∈ s, x ∈ t) → s.length ≤ t.length
  | [], t, _, _ => Nat.zero_le _
  | x :: s, t, hn, hs => by
    have hx := hs x (by simp)
    rw [List.nodup_cons] at hn
    have h1 := sub_len s (t.erase x) hn.2 (fun y hy => by
      have hne : y ≠ x := fun e => hn.1 (e ▸ hy)
      exact (List.mem_erase_of_ne hne).2 (hs y (by simp [hy])))
    rw [List.length_erase_of_mem hx] at h1
    have := List.length_pos_of_mem hx
    simp; omega
abbrev LC := Bool × List Int
def LitR.c (l : LitR) : LC := (l.neg, l.r.l)
structure CC where
  ls : List LC
  ts : List (List Int)
  cs : List LC
deriving DecidableEq
def Cl.c (c : Cl) : CC := ⟨c.ls.map LitR.c, c.ts.map (·.l), c.cs.map LitR.c⟩
def CC.rows (c : CC) : List (List Int) := c.ls.map (·.2) ++ c.ts ++ c.cs.map (·.2)
theorem in_ls {c : CC} {l : LC} (h : l ∈ c.ls) : l.2 ∈ c.rows := by
  rw [CC.rows, List.mem_append, List.mem_append]; exact .inl (.inl (List.mem_map_of_mem h))
theorem in_cs {c : CC} {l : LC} (h : l ∈ c.cs) : l.2 ∈ c.rows := by
  rw [CC.rows, List.mem_append, List.mem_append]; exact .inr (List.mem_map_of_mem h)
def onceC (c : CC) : CC := ⟨onceK id [] c.ls, onceK id [] c.ts, onceK id [] c.cs⟩
def renL (s : List Int) (l : LC) : LC := (l.1, renR s l.2)
def renCC (s : List Int) (c : CC) : CC := ⟨c.ls.map (renL s), c.ts.map (renR s), c.cs.map (renL s)⟩
def seenC (c : CC) : List Int := seenRs [] (onceC c).rows
def normC (c : CC) : CC := renCC (seenC c) (onceC c)
/-! ### What may be -/
def lenI : List (List Int) → Nat
  | [] => 0
  | r :: rs => r.length + lenI rs
def termsB (g : List Sym) (k : Nat) (ts : List (List Int)) : Bool := ts.all fun r => rowB g r && (termsN g r == k)
def tsB (g : List Sym) (ts : List (List Int)) : Bool := match ts with
  | [] => true
  | r :: _ => termsB g (termsN g r) ts
def lsB (g : List Sym) (ls : List LC) : Bool := ls.all fun l => atomB g l.2
def clC (g : List Sym) (c : CC) : Bool := sigB g && (decide (c.ls.length ≤ 5) && (decide (c.ts.length ≤ 3) && (decide (c.cs.length ≤ 3) && (lsB g c.ls && (tsB g c.ts && (lsB g c.cs && decide (lenI c.rows ≤ 240)))))))
theorem lenI_app : ∀ (a b : List (List Int)), lenI (a ++ b) = lenI a + lenI b
  | [], b => by simp [lenI]
  | r :: a, b => by simp [lenI, lenI_app a b]; omega
theorem lenL_c : ∀ (ls : List LitR), lenL ls = lenI ((ls.map LitR.c).map (·.2))
  | [] => rfl
  | l :: ls => by simp [lenL, lenI, lenL_c ls, LitR.c]
theorem lenR_c : ∀ (ts : List Row), lenR ts = lenI (ts.map (·.l))
  | [] => rfl
  | l :: ls => by simp [lenR, lenI, lenR_c ls]
theorem clB_c (g : List Sym) (c : Cl) : clB g c = clC g c.c := by
  have h1 : lenL c.ls + lenR c.ts + lenL c.cs = lenI c.c.rows := by
    rw [CC.rows, lenI_app, lenI_app, lenL_c, lenR_c, lenL_c]; rfl
  have h2 : rowsB g c.ts = tsB g (c.ts.map (·.l)) := by
    cases h : c.ts with
    | nil => rfl
    | cons r ts => simp [rowsB, tsB, rowsF, termsB, List.all_map, Function.comp_def]
  unfold clB clC
  rw [h1, h2]
  simp [Cl.c, litsB, lsB, List.all_map, Function.comp_def, LitR.c]
structure ClOk (g : List Sym) (c : CC) : Prop where
  sg : sigB g = true
  l5 : c.ls.length ≤ 5
  t3 : c.ts.length ≤ 3
  c3 : c.cs.length ≤ 3
  la : ∀ l ∈ c.ls, atomB g l.2 = true
  tr : ∃ k, ∀ r ∈ c.ts, rowB g r = true ∧ termsN g r = k
  ca : ∀ l ∈ c.cs, atomB g l.2 = true
  sum : lenI c.rows ≤ 240
theorem clOk {g : List Sym} {c : CC} : clC g c = true ↔ ClOk g c := by
  unfold clC
  simp only [Bool.and_eq_true, decide_eq_true_eq]
  constructor
  · rintro ⟨h1, h2, h3, h4, h5, h6, h7, h8⟩
    refine ⟨h1, h2, h3, h4, by simpa [lsB] using h5, ?_, by simpa [lsB] using h7, h8⟩
    cases h : c.ts with
    | nil => exact ⟨0, by simp⟩
    | cons r ts =>
      rw [h] at h6
      refine ⟨termsN g r, fun x hx => ?_⟩
      have := List.all_eq_true.1 h6 x hx
      simpa using this
  · rintro ⟨h1, h2, h3, h4, h5, ⟨k, h6⟩, h7, h8⟩
    refine ⟨h1, h2, h3, h4, by simpa [lsB] using h5, ?_, by simpa [lsB] using h7, h8⟩
    cases h : c.ts with
    | nil => rfl
    | cons r ts =>
      rw [h] at h6
      refine List.all_eq_true.2 fun x hx => ?_
      have := h6 x hx
      have := h6 r (by simp)
      simp_all
/-- Codes in rows of a clause that may be. -/
theorem cl_codes {g : List Sym} {c : CC} (h : ClOk g c) : ∀ r ∈ c.rows, ∀ x ∈ r, -24 ≤ x ∧ x < g.length := by
  intro r hr x hx
  rw [CC.rows, List.mem_append, List.mem_append] at hr
  rcases hr with (hr | hr) | hr
  · obtain ⟨l, hl, rfl⟩ := List.mem_map.1 hr
    exact (atom_codes (h.la l hl)).2.1 x hx
  · obtain ⟨k, hk⟩ := h.tr
    exact row_codes (hk r hr).1 x hx
  · obtain ⟨l, hl, rfl⟩ := List.mem_map.1 hr
    exact (atom_codes (h.ca l hl)).2.1 x hx
theorem mem_onceC {c : CC} {r : List Int} : r ∈ (onceC c).rows ↔ r ∈ c.rows := by
  simp only [CC.rows, onceC, List.mem_append, List.mem_map, mem_once, List.not_mem_nil, false_or]
theorem mem_seenC {c : CC} {x : Int} : x ∈ seenC c ↔ x < 0 ∧ ∃ r ∈ c.rows, x ∈ r := by
  rw [seenC, mem_seenRs]
  simp only [List.not_mem_nil, false_or, mem_onceC]
theorem seenC_nodup (c : CC) : (seenC c).Nodup := nodup_seenRs List.nodup_nil
theorem seenC_len {g : List Sym} {c : CC} (h : ClOk g c) : (seenC c).length ≤ 24 := by
  have := sub_len (seenC c) (firsts 24) (seenC_nodup c) (fun x hx => by
    obtain ⟨h1, r, hr, h2⟩ := mem_seenC.1 hx
    have := cl_codes h r hr x h2
    exact mem_firsts.2 ⟨h1, by omega⟩)
  rwa [firsts_len] at this
/-! ### Rows with other variables -/
theorem arOf_ren {g : List Sym} {s : List Int} (hs : s.length ≤ 24) {c : Int} (h1 : -24 ≤ c) (h2 : c < 0 → c ∈ s) : arOf g (renC s c) = arOf g c := by
  unfold renC
  split
  · rfl
  · have h3 := List.idxOf_lt_length_of_mem (h2 (by omega))
    rw [arOf, if_pos (by omega), if_pos (by omega), arOf, if_pos (by omega), if_pos (by omega)]
theorem lenN_map {g : List Sym} (f : Int → Int) : ∀ {r : List Int} (n : Nat), (∀ c ∈ r, arOf g (f c) = arOf g c) → lenN g (r.map f) n = lenN g r n
  | r, 0, h => by cases r <;> rfl
  | [], n + 1, h => rfl
  | c :: r, n + 1, h => by
    simp only [List.map_cons, lenN]
    rw [h c (by simp)]
    split
    · rfl
    · rename_i k hk
      rw [lenN_map f (r := r) (n + k) (fun x hx => h x (by simp [hx]))]
theorem parts_map {g : List Sym} (f : Int → Int) : ∀ (n : Nat) {r : List Int}, r.length ≤ n → (∀ c ∈ r, arOf g (f c) = arOf g c) → parts g (r.map f) = (parts g r).map (List.map (List.map f))
  | n, [], _, _ => by simp [parts_nil]
  | 0, c :: r, hn, _ => by simp at hn
  | n + 1, c :: r, hn, h => by
    have hl := lenN_map (g := g) f (r := c :: r) 1 h
    cases hk : lenN g (c :: r) 1 with
    | none =>
      rw [parts_none (by simp) (hl.trans hk), parts_none (by simp) hk]; rfl
    | some k =>
      have h1 := lenN_le hk
      rw [parts_some (by simp) (hl.trans hk), parts_some (by simp) hk, ← List.map_drop, ← List.map_take]
      have := parts_map f n (r := (c :: r).drop k) (by simp at hn ⊢; omega) (fun x hx => h x (List.mem_of_mem_drop hx))
      rw [this]
      cases parts g ((c :: r).drop k) <;> simp
theorem rowB_map {g : List Sym} (f : Int → Int) {r : List Int} (h : ∀ c ∈ r, arOf g (f c) = arOf g c) : rowB g (r.map f) = rowB g r ∧ termsN g (r.map f) = termsN g r := by
  have h1 := parts_map (g := g) f r.length (Nat.le_refl _) h
  constructor
  · simp only [rowB, rowP, List.length_map, h1]
    split <;> simp
  · simp only [termsN, begsM, rowP, List.length_map, h1]
    by_cases hl : r.length ≤ 48
    · simp only [if_pos hl]
      cases parts g r <;> simp <;> split <;> simp [begs_len]
    · simp only [if_neg hl]
theorem ren_row {g : List Sym} {s : List Int} (hs : s.length ≤ 24) {r : List Int} (h : rowB g r = true) (hm : ∀ c ∈ r, c < 0 → c ∈ s) : rowB g (renR s r) = true ∧ termsN g (renR s r) = termsN g r := by
  have h1 := rowB_map (g := g) (renC s) (r := r) (fun c hc => arOf_ren hs (row_codes h c hc).1 (hm c hc))
  exact ⟨h1.1.trans h, h1.2⟩
theorem ren_atom {g : List Sym} {s : List Int} (hs : s.length ≤ 24) {a : List Int} (h : atomB g a = true) (hm : ∀ c ∈ a, c < 0 → c ∈ s) : atomB g (renR s a) = true := by
  have hc := (atom_codes h).2.1
  cases a with
  | nil => exact h
  | cons p r =>
    have hp : ¬ p < 0 := fun hp => by simp [atomB, hp] at h
    have h0 : renC s p = p := by simp [renC]; intro; omega
    have h1 := parts_map (g := g) (renC s) r.length (r := r) (Nat.le_refl _) (fun c h2 => arOf_ren hs (hc c (by simp [h2])).1 (hm c (by simp [h2])))
    have h2 : rowP g (r.map (renC s)) = (rowP g r).map (List.map (List.map (renC s))) := by
      simp only [rowP, List.length_map, h1]; split <;> rfl
    rw [← h]
    simp only [renR, List.map_cons, atomB, h0, h2]
    split
    · rfl
    · split
      · rfl
      · cases rowP g r <;> simp
theorem lenI_map (f : List Int → List Int) (hf : ∀ r, (f r).length = r.length) : ∀ rs, lenI (rs.map f) = lenI rs
  | [] => rfl
  | r :: rs => by simp [lenI, hf, lenI_map f hf rs]
theorem ren_rows (s : List Int) (c : CC) : (renCC s c).rows = c.rows.map (renR s) := by
  simp [CC.rows, renCC, renL, Function.comp_def]
theorem lenI_once {α : Type} [DecidableEq α] (k : α → List Int) : ∀ (r out : List α), lenI ((onceK id out r).map k) ≤ lenI (out.map k) + lenI (r.map k)
  | [], out => by simp [onceK]
  | x :: r, out => by
    simp only [onceK]
    split
    · have := lenI_once k r out; simp [lenI]; omega
    · have := lenI_once k r (out ++ [x]); simp [lenI_app, lenI] at this ⊢; omega
theorem norm_ok {g : List Sym} {c : CC} (h : ClOk g c) : ClOk g (normC c) := by
  have hs := seenC_len h
  have hm : ∀ r ∈ c.rows, ∀ x ∈ r, x < 0 → x ∈ seenC c := fun r hr x hx h0 => mem_seenC.2 ⟨h0, r, hr, hx⟩
  have hin1 : ∀ l ∈ c.ls, l.2 ∈ c.rows := fun l hl => in_ls hl
  have hin2 : ∀ r ∈ c.ts, r ∈ c.rows := fun l hl => by simp [CC.rows, hl]
  have hin3 : ∀ l ∈ c.cs, l.2 ∈ c.rows := fun l hl => in_cs hl
  refine ⟨h.sg, ?_, ?_, ?_, ?_, ?_, ?_, ?_⟩
  · have := once_len id c.ls []; have := h.l5; simp [normC, renCC, onceC] at *; omega
  · have := once_len id c.ts []; have := h.t3; simp [normC, renCC, onceC] at *; omega
  · have := once_len id c.cs []; have := h.c3; simp [normC, renCC, onceC] at *; omega
  · intro l hl
    simp only [normC, renCC, onceC, List.mem_map] at hl
    obtain ⟨m, hm1, rfl⟩ := hl
    have h1 : m ∈ c.ls := by simpa using (mem_once c.ls [] m).1 hm1
    exact ren_atom hs (h.la m h1) (hm _ (hin1 m h1))
  · obtain ⟨k, hk⟩ := h.tr
    refine ⟨k, fun r hr => ?_⟩
    simp only [normC, renCC, onceC, List.mem_map] at hr
    obtain ⟨m, hm1, rfl⟩ := hr
    have h1 : m ∈ c.ts := by simpa using (mem_once c.ts [] m).1 hm1
    have h2 := ren_row hs (hk m h1).1 (hm _ (hin2 m h1))
    exact ⟨h2.1, h2.2.trans (hk m h1).2⟩
  · intro l hl
    simp only [normC, renCC, onceC, List.mem_map] at hl
    obtain ⟨m, hm1, rfl⟩ := hl
    have h1 : m ∈ c.cs := by simpa using (mem_once c.cs [] m).1 hm1
    exact ren_atom hs (h.ca m h1) (hm _ (hin3 m h1))
  · rw [normC, ren_rows, lenI_map _ (fun r => by simp [renR])]
    refine Nat.le_trans ?_ h.sum
    simp only [CC.rows, onceC, lenI_app]
    have h1 := lenI_once (fun l : LC => l.2) c.ls []
    have h2 := lenI_once (fun l : List Int => l) c.ts []
    have h3 := lenI_once (fun l : LC => l.2) c.cs []
    simp [lenI] at h1 h2 h3
    omega
/-! ### Its own normal one -/
theorem norm_norm (c : CC) : normC (normC c) = normC c := by
  have hm : ∀ r ∈ c.rows, ∀ x ∈ r, x < 0 → x ∈ seenC c := fun r hr x hx h0 => mem_seenC.2 ⟨h0, r, hr, hx⟩
  have hin1 : ∀ l ∈ (onceC c).ls, l.2 ∈ c.rows := fun l hl => mem_onceC.1 (in_ls hl)
  have hin2 : ∀ r ∈ (onceC c).ts, r ∈ c.rows := fun l hl => mem_onceC.1 (by simp [CC.rows, hl])
  have hin3 : ∀ l ∈ (onceC c).cs, l.2 ∈ c.rows := fun l hl => mem_onceC.1 (in_cs hl)
  have hL : ∀ (ls : List LC), ls.Nodup → (∀ l ∈ ls, l.2 ∈ c.rows) → onceK id [] (ls.map (renL (seenC c))) = ls.map (renL (seenC c)) := by
    intro ls hn hr
    have := once_inj (renL (seenC c)) ls [] (fun a ha b hb he => by
      simp at ha hb
      have h1 := congrArg Prod.fst he
      have h2 := renR_inj (hm _ (hr a ha)) (hm _ (hr b hb)) (congrArg Prod.snd he)
      exact Prod.ext h1 h2)
    simp only [List.map_nil] at this
    rw [this, once_same ls [] (by simpa using hn), List.nil_append]
  have hR : ∀ (ls : List (List Int)), ls.Nodup → (∀ l ∈ ls, l ∈ c.rows) → onceK id [] (ls.map (renR (seenC c))) = ls.map (renR (seenC c)) := by
    intro ls hn hr
    have := once_inj (renR (seenC c)) ls [] (fun a ha b hb he => by
      simp at ha hb
      exact renR_inj (hm _ (hr a ha)) (hm _ (hr b hb)) he)
    simp only [List.map_nil] at this
    rw [this, once_same ls [] (by simpa using hn), List.nil_append]
  have h1 : onceC (normC c) = normC c := by
    simp only [onceC, normC, renCC]
    have e1 := hL (onceC c).ls (once_nodup _ _ List.nodup_nil) hin1
    have e2 := hR (onceC c).ts (once_nodup _ _ List.nodup_nil) hin2
    have e3 := hL (onceC c).cs (once_nodup _ _ List.nodup_nil) hin3
    simp only [onceC] at e1 e2 e3
    rw [e1, e2, e3]
  have h2 : seenC (normC c) = firsts (seenC c).length := by
    rw [seenC, h1, normC, ren_rows]
    have := seens_ren (onceC c).rows [] [] (by rw [List.append_nil]; exact seenC_nodup c)
    rw [List.append_nil] at this
    exact this
  have h3 : ∀ r ∈ (onceC c).rows, renR (firsts (seenC c).length) (renR (seenC c) r) = renR (seenC c) r := by
    intro r hr
    rw [renR, renR, List.map_map]
    refine List.map_congr_left fun x hx => ?_
    refine ren_firsts fun h0 => ?_
    have h4 := (ren_neg (seenC c) x).1 h0
    have h5 := List.idxOf_lt_length_of_mem (hm r (mem_onceC.1 hr) x hx h4)
    rw [renC, if_neg (by omega)]; omega
  rw [normC, h1, h2]
  simp only [normC, renCC, List.map_map]
  congr 1
  · exact List.map_congr_left fun l hl => Prod.ext rfl (h3 l.2 (mem_onceC.2 (hin1 l hl)))
  · exact List.map_congr_left fun l hl => h3 l (mem_onceC.2 (hin2 l hl))
  · exact List.map_congr_left fun l hl => Prod.ext rfl (h3 l.2 (mem_onceC.2 (hin3 l hl)))
theorem seen_norm (c : CC) : seenC (normC c) = firsts (seenC c).length := by
  have hm : ∀ r ∈ c.rows, ∀ x ∈ r, x < 0 → x ∈ seenC c := fun r hr x hx h0 => mem_seenC.2 ⟨h0, r, hr, hx⟩
  have h0 := norm_norm c
  have h1 : onceC (normC c) = normC c := by
    have hn1 : ∀ (ls : List LC), ls.Nodup → onceK id [] ls = ls := fun ls h => by rw [once_same ls [] (by simpa using h)]; rfl
    have hin1 : ∀ l ∈ (onceC c).ls, l.2 ∈ c.rows := fun l hl => mem_onceC.1 (in_ls hl)
    have hin2 : ∀ r ∈ (onceC c).ts, r ∈ c.rows := fun l hl => mem_onceC.1 (by simp [CC.rows, hl])
    have hin3 : ∀ l ∈ (onceC c).cs, l.2 ∈ c.rows := fun l hl => mem_onceC.1 (in_cs hl)
    have hL : ∀ (ls : List LC), ls.Nodup → (∀ l ∈ ls, l.2 ∈ c.rows) → onceK id [] (ls.map (renL (seenC c))) = ls.map (renL (seenC c)) := by
      intro ls hn hr
      have := once_inj (renL (seenC c)) ls [] (fun a ha b hb he => by
        simp at ha hb
        have h1 := congrArg Prod.fst he
        have h2 := renR_inj (hm _ (hr a ha)) (hm _ (hr b hb)) (congrArg Prod.snd he)
        exact Prod.ext h1 h2)
      simp only [List.map_nil] at this
      rw [this, once_same ls [] (by simpa using hn), List.nil_append]
    have hR : ∀ (ls : List (List Int)), ls.Nodup → (∀ l ∈ ls, l ∈ c.rows) → onceK id [] (ls.map (renR (seenC c))) = ls.map (renR (seenC c)) := by
      intro ls hn hr
      have := once_inj (renR (seenC c)) ls [] (fun a ha b hb he => by
        simp at ha hb
        exact renR_inj (hm _ (hr a ha)) (hm _ (hr b hb)) he)
      simp only [List.map_nil] at this
      rw [this, once_same ls [] (by simpa using hn), List.nil_append]
    simp only [onceC, normC, renCC]
    have e1 := hL (onceC c).ls (once_nodup _ _ List.nodup_nil) hin1
    have e2 := hR (onceC c).ts (once_nodup _ _ List.nodup_nil) hin2
    have e3 := hL (onceC c).cs (once_nodup _ _ List.nodup_nil) hin3
    simp only [onceC] at e1 e2 e3
    rw [e1, e2, e3]
  rw [seenC, h1, normC, ren_rows]
  have := seens_ren (onceC c).rows [] [] (by rw [List.append_nil]; exact seenC_nodup c)
  rw [List.append_nil] at this
  exact this
/-! ### Weight, variables -/
def wtL (g : List Sym) : List LC → Int
  | [] => 0
  | l :: ls => sumW g l.2 + wtL g ls
/-- The variables of rows, as they rise. -/
def varsC (rs : List (List Int)) : List Int := rs.foldl seenF []
theorem mem_folds : ∀ {rs : List (List Int)} {vs : List Int} {x : Int}, x ∈ rs.foldl seenF vs ↔ x ∈ vs ∨ (0 ≤ x ∧ ∃ r ∈ rs, (-1 - x) ∈ r)
  | [], vs, x => by simp
  | r :: rs, vs, x => by
    rw [List.foldl_cons, mem_folds (rs := rs), mem_seen]
    constructor
    · rintro ((h | h) | ⟨h1, t, ht, h⟩)
      · exact .inl h
      · exact .inr ⟨h.1, r, by simp, h.2⟩
      · exact .inr ⟨h1, t, by simp [ht], h⟩
    · rintro (h | ⟨h1, t, ht, h⟩)
      · exact .inl (.inl h)
      · rcases List.mem_cons.1 ht with h2 | h2
        · subst h2; exact .inl (.inr ⟨h1, h⟩)
        · exact .inr ⟨h1, t, h2, h⟩
theorem up_folds : ∀ {rs : List (List Int)} {vs : List Int}, Up vs → Up (rs.foldl seenF vs)
  | [], vs, h => h
  | r :: rs, vs, h => up_folds (rs := rs) (up_seen h)
theorem vars_mem {rs : List (List Int)} {x : Int} : x ∈ varsC rs ↔ 0 ≤ x ∧ ∃ r ∈ rs, (-1 - x) ∈ r := by
  rw [varsC, mem_folds]; simp
/-- The variables do not hang on the rows' order. -/
theorem vars_ext {rs us : List (List Int)} (h : ∀ r, r ∈ rs ↔ r ∈ us) : varsC rs = varsC us :=
  up_ext (up_folds List.Pairwise.nil) (up_folds List.Pairwise.nil) fun x => by
    show x ∈ varsC rs ↔ x ∈ varsC us
    rw [vars_mem, vars_mem]; simp only [h]
theorem up_nodup {l : List Int} (h : Up l) : l.Nodup := h.imp fun hab e => by subst e; omega
theorem vars_flat {rs : List (List Int)} (h : ∀ r ∈ rs, ∀ c ∈ r, -24 ≤ c) : varsC rs = varsM rs.flatten := by
  have h1 : ∀ c ∈ rs.flatten, -24 ≤ c := fun c hc => by
    obtain ⟨r, hr, hc⟩ := List.mem_flatten.1 hc
    exact h r hr c hc
  rw [← seen_vars h1]
  refine up_ext (up_folds List.Pairwise.nil) (up_seen List.Pairwise.nil) fun x => ?_
  show x ∈ varsC rs ↔ _
  rw [vars_mem, mem_seen]
  simp [List.mem_flatten]
theorem vars_seen (c : CC) {x : Int} : x ∈ varsC c.rows ↔ 0 ≤ x ∧ (-1 - x) ∈ seenC c := by
  rw [vars_mem, mem_seenC]
  constructor
  · rintro ⟨h, r, hr⟩; exact ⟨h, by omega, r, hr⟩
  · rintro ⟨h, _, r, hr⟩; exact ⟨h, r, hr⟩
theorem vars_len (c : CC) : (varsC c.rows).length = (seenC c).length := by
  apply Nat.le_antisymm
  · have h1 : ((varsC c.rows).map fun x => -1 - x).Nodup := by
      have := up_nodup (l := varsC c.rows) (up_folds List.Pairwise.nil)
      rw [List.nodup_iff_pairwise_ne] at *
      exact List.pairwise_map.2 (this.imp fun h => by omega)
    have := sub_len _ (seenC c) h1 (fun x hx => by
      obtain ⟨y, hy, rfl⟩ := List.mem_map.1 hx
      exact ((vars_seen c).1 hy).2)
    rwa [List.length_map] at this
  · have h1 : ((seenC c).map fun x => -1 - x).Nodup := by
      have := seenC_nodup c
      rw [List.nodup_iff_pairwise_ne] at *
      exact List.pairwise_map.2 (this.imp fun h => by omega)
    have := sub_len _ (varsC c.rows) h1 (fun x hx => by
      obtain ⟨y, hy, rfl⟩ := List.mem_map.1 hx
      have := (mem_seenC.1 hy).1
      refine (vars_seen c).2 ⟨by omega, ?_⟩
      rw [show (-1 - (-1 - y) : Int) = y by omega]; exact hy)
    rwa [List.length_map] at this
theorem vars_norm (c : CC) : varsC (normC c).rows = (List.range (seenC c).length).map fun (i : Nat) => (i : Int) := by
  refine up_ext (up_folds List.Pairwise.nil) ?_ fun x => ?_
  · refine List.pairwise_map.2 ?_
    exact List.pairwise_lt_range.imp (fun h => by omega)
  · show x ∈ varsC _ ↔ _
    rw [vars_seen, seen_norm, mem_firsts]
    simp only [List.mem_map, List.mem_range]
    constructor
    · rintro ⟨h1, h2, h3⟩; exact ⟨x.toNat, by omega, by omega⟩
    · rintro ⟨i, hi, rfl⟩; omega
end Go.Qu

/- Clauses that say nothing: of some things one is at odds with another one just if one is with one ahead of it. Plain lists; no condition. -/
set_option linter.unusedVariables false
set_option linter.unusedSimpArgs false
namespace Go.Qu
open Go Go.Ab

/-- An equation of a term with itself. -/
def selfB (g : List Sym) (l : LC) : Bool := !l.1 && (gi l.2 0 == 0 && (match parts g l.2.tail with | some [x, y] => decide (x = y) | _ => false))
def oddB (l m : LC) : Bool := (l.1 != m.1) && decide (l.2 = m.2)
def trivB (g : List Sym) (ls : List LC) : Bool := ls.any fun l => selfB g l || ls.any (oddB l)
end Go.Qu

/- Clauses of which each part stands once: what the program's functions hand back. For every input; no condition. -/
set_option linter.unusedVariables false
set_option linter.unusedSimpArgs false
set_option maxRecDepth 100000
namespace Go.Proofs.YtjhganbjbiihoaaDoor.Ab
open Go Go.Ab Go.Qu Go.Proofs
attribute [local simp] and_assoc
theorem w_litsame {b b' z z' : Bool} {a a' : List Int} {e e' : List D} (ha : Len a) : C 73 [iLit b z a e, iLit b' z' a' e'] = some (iB (decide ((b, a) = (b', a'))), [iLit b z a e, iLit b' z' a' e']) := by
  refine wfn (lk := []) rfl rfl (fnW_way (q73 _ _ b z (ints a) e b' z' (ints a') e' _) ?_)
  have h1 := w_equal ha a' z z' e e'
  by_cases h : a = a'
  · subst h
    cases b <;> cases b' <;> simp [-Bool.exists_bool, h1]
  · cases b <;> cases b' <;> simp [-Bool.exists_bool, h1, h]
/-- A literal as a variable that is lent. -/
abbrev pL (l : LitR) : IV := .dptr [.bool l.neg, .sl 1 l.r.z (ints l.r.l) l.r.e]
abbrev pR (r : Row) : IV := .dptr [.sl 1 r.z (ints r.l) r.e]
theorem w_once1 {l m : LitR} (hl : Len l.r.l) : C 102 [iLit m.neg m.r.z m.r.l m.r.e, pL l] = some (iB (decide (l.c = m.c)), [iLit m.neg m.r.z m.r.l m.r.e, pL l]) := by
  refine wfn (lk := []) rfl rfl (fnW_way (q102 _ _ m.neg m.r.z (ints m.r.l) m.r.e l.neg l.r.z (ints l.r.l) l.r.e _) ?_)
  have h1 := w_litsame (b := l.neg) (b' := m.neg) (z := l.r.z) (z' := m.r.z) (a' := m.r.l) (e := l.r.e) (e' := m.r.e) hl
  by_cases h : l.c = m.c
  · have h2 : (l.neg, l.r.l) = (m.neg, m.r.l) := h
    rw [h2] at h1
    simp [-Bool.exists_bool, h1, h2, h]
  · have h2 : ¬ (l.neg, l.r.l) = (m.neg, m.r.l) := h
    rw [decide_eq_false h2] at h1
    simp [-Bool.exists_bool, h1, h]
/-- The place of the first thing of which a question is told true. -/
def idxQ {α : Type} (q : α → Bool) (l : List α) : Int := match l.findIdx? q with | some i => i | none => -1
theorem idxQ_some {α : Type} {q : α → Bool} {l : List α} {j : Nat} (hj : j < l.length) (hq : q l[j] = true) (hk : ∀ k, k < j → ∀ x, l[k]? = some x → q x = false) : idxQ q l = (j : Int) := by
  have : l.findIdx? q = some j := by
    rw [List.findIdx?_eq_some_iff_getElem]
    exact ⟨hj, hq, fun k hk' => by
      have := hk k hk' l[k] (by simp)
      simp [this]⟩
  unfold idxQ; rw [this]
theorem idxQ_none {α : Type} {q : α → Bool} {l : List α} (hk : ∀ k, k < l.length → ∀ x, l[k]? = some x → q x = false) : idxQ q l = -1 := by
  have : l.findIdx? q = none := by
    rw [List.findIdx?_eq_none_iff]
    intro x hx
    obtain ⟨i, hi, rfl⟩ := List.getElem_of_mem hx
    exact hk i hi _ (by simp)
  unfold idxQ; rw [this]
theorem idxQ_any {α : Type} (q : α → Bool) (l : List α) : decide (idxQ q l ≥ 0) = l.any q := by
  unfold idxQ
  cases h : l.findIdx? q with
  | none =>
    have : l.any q = false := by
      rw [List.any_eq_false]
      intro x hx; simp [List.findIdx?_eq_none_iff.1 h x hx]
    rw [this]; rfl
  | some i =>
    have : l.any q = true := by
      obtain ⟨hi, hq, _⟩ := List.findIdx?_eq_some_iff_getElem.1 h
      exact List.any_eq_true.2 ⟨_, List.getElem_mem hi, hq⟩
    rw [this]; simp
theorem w_idxonce {l : LitR} (hl : Len l.r.l) {ls : List LitR} (hn : ls.length ≤ 1000) (z : Bool) (e : List D) : C 69 [iL z ls e, .fn 102 [pL l]] = some (iI (idxQ (fun m => decide (l.c = m.c)) ls), [iL z ls e, .fn 102 [pL l]]) := by
  refine wfn (lk := [1]) rfl rfl (fnW_way (q69v1 _ _ z (lits ls) e l.neg l.r.z (ints l.r.l) l.r.e _) ?_)
  have hl := blk_find (F := F) (d := d69) (lk := [1]) (p := [1,0,1,0,0]) (p0 := [1,0,1]) (by kernel_rfl) (n := ls.length) (id := 0) (st := fun i => [(0, iL z ls e), (1, .fn 102 [pL l]), (7, iI ls.length), (8, iI i)]) (q := fun i => match ls[i]? with | some m => decide (l.c = m.c) | none => false) (rt := fun i => [(1, .fn 102 [pL l]), (4, iI i)]) (e := [(0, iL z ls e), (1, .fn 102 [pL l]), (7, iI ls.length), (8, iI ls.length)])
    (fun i hi hq => by
      refine wpQ_way (q69_l0b _ _ z (lits ls) e l.neg l.r.z (ints l.r.l) l.r.e _ i _) ?_
      obtain ⟨m, hm⟩ := at_lt hi
      have h1 := w_once1 (l := l) (m := m) hl
      rw [hm] at hq
      dsimp only at hq
      rw [hq] at h1
      simp [-Bool.exists_bool, -getElem?_pos, -Int.natCast_add, wr1 hi (by omega), hi, lits_at hm, h1])
    (fun i hi hq => by
      refine wpQ_way (q69_l0b _ _ z (lits ls) e l.neg l.r.z (ints l.r.l) l.r.e _ i _) ?_
      obtain ⟨m, hm⟩ := at_lt hi
      have h1 := w_once1 (l := l) (m := m) hl
      rw [hm] at hq
      dsimp only at hq
      rw [hq] at h1
      simp [-Bool.exists_bool, -getElem?_pos, -Int.natCast_add, wr1 hi (by omega), hi, lits_at hm, h1])
    (wpQ_way (q69_l0b _ _ z (lits ls) e l.neg l.r.z (ints l.r.l) l.r.e _ ls.length _) (by simp)) 0 (Nat.zero_le _)
  rcases hl with ⟨h2, h3⟩ | ⟨j, h1, h2, h4, h5, h3⟩
  · rw [idxQ_none (fun k hk t ht => by have := h2 k (Nat.zero_le _) hk; rw [ht] at this; exact this)]
    rw [lits_len]
    exact .inr (.inr (.inr ⟨_, _, _, _, _, _, _, _, _, h3, rfl⟩))
  · rw [idxQ_some h2 (by have := h4; rw [List.getElem?_eq_getElem h2] at this; exact this) (fun k hk t ht => by have := h5 k (Nat.zero_le _) hk; rw [ht] at this; exact this)]
    rw [lits_len]
    exact .inr (.inr (.inl ⟨_, _, _, _, _, h3, rfl⟩))
theorem w_hasonce {l : LitR} (hl : Len l.r.l) {ls : List LitR} (hn : ls.length ≤ 1000) (z : Bool) (e : List D) : C 39 [iL z ls e, .fn 102 [pL l]] = some (iB (decide (l.c ∈ ls.map LitR.c)), [iL z ls e, .fn 102 [pL l]]) := by
  refine wfn (lk := [1]) rfl rfl (fnW_way (q39v1 _ _ z (lits ls) e l.neg l.r.z (ints l.r.l) l.r.e _) ?_)
  have h1 := w_idxonce hl hn z e
  have h2 := idxQ_any (fun m => decide (l.c = m.c)) ls
  have h3 : (ls.any fun m => decide (l.c = m.c)) = decide (l.c ∈ ls.map LitR.c) := by
    rw [Bool.eq_iff_iff]
    simp only [List.any_eq_true, decide_eq_true_eq, List.mem_map]
    exact ⟨fun ⟨m, hm, h⟩ => ⟨m, hm, h.symm⟩, fun ⟨m, hm, h⟩ => ⟨m, hm, h.symm⟩⟩
  rw [h3] at h2
  rw [← h2]
  by_cases h : 0 ≤ idxQ (fun m => decide (l.c = m.c)) ls
  · simp [-Bool.exists_bool, h1, h]
  · simp [-Bool.exists_bool, h1, h]; omega
theorem w_clonce {ls : List LitR} (hn : ls.length ≤ 1000) (hl : ∀ l ∈ ls, Len l.r.l) (z : Bool) (e : List D) : C 75 [iL z ls e] = some (.own (onceK LitR.c [] ls).isEmpty 57 2 (lits (onceK LitR.c [] ls)), [iL z ls e]) := by
  refine wfn (lk := []) rfl rfl (fnW_way (q75 _ _ z (lits ls) e _) ?_)
  have h1 := fun x hx => blk_fun (F := F) (d := d75) (lk := []) (p := [1,1,0,1,0,0]) (p0 := [1,1,0,1]) (id := 0) (by kernel_rfl) (st := fun (x : List LitR × Nat) => [(3, .own x.1.isEmpty 57 2 (lits x.1)), (6, iL z ls e), (7, iI ls.length), (8, iI x.2)]) (I := fun x => x.2 ≤ ls.length ∧ x.1.length ≤ x.2) (μ := fun x => ls.length - x.2)
    (res := fun x => .norm [(3, .own (onceK LitR.c x.1 (ls.drop x.2)).isEmpty 57 2 (lits (onceK LitR.c x.1 (ls.drop x.2)))), (6, iL z ls e), (7, iI ls.length), (8, iI ls.length)])
    (fun x hx => by
      obtain ⟨us, i⟩ := x
      obtain ⟨hx1, hx2⟩ := hx
      dsimp only at hx1 hx2
      by_cases hi : i < ls.length
      · obtain ⟨l, hl1⟩ := at_lt hi
        have hd : ls.drop i = l :: ls.drop (i + 1) := by
          rw [List.drop_eq_getElem_cons hi]
          rw [List.getElem?_eq_getElem hi] at hl1
          cases hl1; rfl
        have hlm : l ∈ ls := List.mem_of_getElem? hl1
        have hc := w_hasonce (hl l hlm) (ls := us) (by omega) us.isEmpty []
        have hi' : (i : Int) < ls.length := by omega
        by_cases hm : l.c ∈ us.map LitR.c
        · rw [decide_eq_true hm] at hc
          refine .go (us, i + 1) (wpQ_way (q75_l0a _ _ us.isEmpty (lits us) z (lits ls) e _ i _) ?_) ⟨by dsimp only; omega, by dsimp only; omega⟩ (by dsimp only; omega) ?_
          · simp [-Bool.exists_bool, -getElem?_pos, -Int.natCast_add, hi', lits_at hl1, hc, wr1 hi (by omega)]
          · dsimp only; rw [hd, onceK, if_pos hm]
        · rw [decide_eq_false hm] at hc
          refine .go (us ++ [l], i + 1) (wpQ_way (q75_l0a _ _ us.isEmpty (lits us) z (lits ls) e _ i _) ?_) ⟨by dsimp only; omega, by simp; omega⟩ (by dsimp only; omega) ?_
          · have k1 : us.length + 1 ≤ 9223372036854775807 := by omega
            have k2 : (us.length + 1) * 32 ≤ 140737488355328 := by omega
            simp [-Bool.exists_bool, -getElem?_pos, -Int.natCast_add, hi', lits_at hl1, hc, wr1 hi (by omega), lits_len, k1, k2, lits_append, lits_cons, lits_nil, D.cells]
          · dsimp only; rw [hd, onceK, if_neg hm]
      · have e1 : i = ls.length := by omega
        subst e1
        refine .stop (.exit 0 [(3, .own us.isEmpty 57 2 (lits us)), (6, iL z ls e), (7, iI ls.length), (8, iI ls.length)]) (wpQ_way (q75_l0a _ _ us.isEmpty (lits us) z (lits ls) e _ _ _) (by simp)) rfl ?_
        simp [blkO, onceK]) x hx
  have h2 : evP F (Go.Ab.W F) (JW F d75 []) d75 [] [1,1,0,1] [(3, .own true 57 2 []), (6, iL z ls e), (7, iI ls.length), (8, iI 0)] = _ := h1 ([], 0) ⟨Nat.zero_le _, Nat.le_refl _⟩
  rw [List.drop_zero] at h2
  simp [-Bool.exists_bool, lits_len, h2]
/-! ### Rows -/
theorem w_anew1 {r : Row} (hr : Len r.l) (z : Bool) (u : List Int) (e : List D) : C 77 [iS z u e, pR r] = some (iB (decide (r.l = u)), [iS z u e, pR r]) := by
  refine wfn (lk := []) rfl rfl (fnW_way (q77 _ _ z (ints u) e r.z (ints r.l) r.e _) ?_)
  have h1 := w_equal hr u r.z z r.e e
  by_cases h : r.l = u
  · subst h; simp [-Bool.exists_bool, h1]
  · simp [-Bool.exists_bool, h1, h]
theorem w_idxrow {r : Row} (hr : Len r.l) {ts : List Row} (hn : ts.length ≤ 1000) (z : Bool) (e : List D) : C 103 [iR z ts e, .fn 77 [pR r]] = some (iI (idxQ (fun u => decide (r.l = u.l)) ts), [iR z ts e, .fn 77 [pR r]]) := by
  refine wfn (lk := [1]) rfl rfl (fnW_way (q103 _ _ z (rws ts) e r.z (ints r.l) r.e _) ?_)
  have hl := blk_find (F := F) (d := d103) (lk := [1]) (p := [1,0,1,0,0]) (p0 := [1,0,1]) (by kernel_rfl) (n := ts.length) (id := 0) (st := fun i => [(0, iR z ts e), (1, .fn 77 [pR r]), (7, iI ts.length), (8, iI i)]) (q := fun i => match ts[i]? with | some u => decide (r.l = u.l) | none => false) (rt := fun i => [(1, .fn 77 [pR r]), (4, iI i)]) (e := [(0, iR z ts e), (1, .fn 77 [pR r]), (7, iI ts.length), (8, iI ts.length)])
    (fun i hi hq => by
      refine wpQ_way (q103_l0a _ _ z (rws ts) e r.z (ints r.l) r.e _ i _) ?_
      obtain ⟨m, hm⟩ := at_lt hi
      have h1 := w_anew1 hr m.z m.l m.e
      rw [hm] at hq
      dsimp only at hq
      rw [hq] at h1
      simp [-Bool.exists_bool, -getElem?_pos, -Int.natCast_add, wr1 hi (by omega), hi, rws_at hm, h1])
    (fun i hi hq => by
      refine wpQ_way (q103_l0a _ _ z (rws ts) e r.z (ints r.l) r.e _ i _) ?_
      obtain ⟨m, hm⟩ := at_lt hi
      have h1 := w_anew1 hr m.z m.l m.e
      rw [hm] at hq
      dsimp only at hq
      rw [hq] at h1
      simp [-Bool.exists_bool, -getElem?_pos, -Int.natCast_add, wr1 hi (by omega), hi, rws_at hm, h1])
    (wpQ_way (q103_l0a _ _ z (rws ts) e r.z (ints r.l) r.e _ ts.length _) (by simp)) 0 (Nat.zero_le _)
  rcases hl with ⟨h2, h3⟩ | ⟨j, h1, h2, h4, h5, h3⟩
  · rw [idxQ_none (fun k hk t ht => by have := h2 k (Nat.zero_le _) hk; rw [ht] at this; exact this)]
    rw [rws_len]
    exact .inr ⟨_, _, _, _, _, _, _, _, h3, rfl⟩
  · rw [idxQ_some h2 (by have := h4; rw [List.getElem?_eq_getElem h2] at this; exact this) (fun k hk t ht => by have := h5 k (Nat.zero_le _) hk; rw [ht] at this; exact this)]
    rw [rws_len]
    exact .inl ⟨_, _, _, _, h3, rfl⟩
theorem w_hasrow {r : Row} (hr : Len r.l) {ts : List Row} (hn : ts.length ≤ 1000) (z : Bool) (e : List D) : C 76 [iR z ts e, .fn 77 [pR r]] = some (iB (decide (r.l ∈ ts.map (·.l))), [iR z ts e, .fn 77 [pR r]]) := by
  refine wfn (lk := [1]) rfl rfl (fnW_way (q76 _ _ z (rws ts) e r.z (ints r.l) r.e _) ?_)
  have h1 := w_idxrow hr hn z e
  have h2 := idxQ_any (fun u => decide (r.l = u.l)) ts
  have h3 : (ts.any fun u => decide (r.l = u.l)) = decide (r.l ∈ ts.map (·.l)) := by
    rw [Bool.eq_iff_iff]
    simp only [List.any_eq_true, decide_eq_true_eq, List.mem_map]
    exact ⟨fun ⟨m, hm, h⟩ => ⟨m, hm, h.symm⟩, fun ⟨m, hm, h⟩ => ⟨m, hm, h.symm⟩⟩
  rw [h3] at h2
  rw [← h2]
  by_cases h : 0 ≤ idxQ (fun u => decide (r.l = u.l)) ts
  · simp [-Bool.exists_bool, h1, h]
  · simp [-Bool.exists_bool, h1, h]; omega
theorem w_clone {t : List Int} (ht : Len t) (z : Bool) (hz : z = true → t = []) (e : List D) : C 80 [iS z t e] = some (.own z 3 1 (ints t), [iS z t e]) := by
  refine wfn (lk := []) rfl rfl (fnW_way (q80 _ _ z (ints t) e _) ?_)
  cases z with
  | true => have := hz rfl; subst this; simp [-Bool.exists_bool, ints_nil]
  | false =>
    have h1 : (ints t).length ≤ 9223372036854775807 := by rw [ints_len]; unfold Len at ht; omega
    have h2 : (ints t).length * 8 ≤ 140737488355328 := by rw [ints_len]; unfold Len at ht; omega
    simp [-Bool.exists_bool, h1, h2]
end Go.Proofs.YtjhganbjbiihoaaDoor.Ab

/- Clauses with their variables numbered anew: what the program's functions hand back. For every input; no condition. -/
set_option linter.unusedVariables false
set_option linter.unusedSimpArgs false
set_option maxRecDepth 100000
namespace Go.Proofs.YtjhganbjbiihoaaDoor.Ab
open Go Go.Ab Go.Qu Go.Proofs
attribute [local simp] and_assoc
/-- The table of what variables are called. -/
def toA (s : List Int) : List Int := (List.range 24).map fun (v : Nat) => if (-1 - (v : Int)) ∈ s then ((s.idxOf (-1 - (v : Int)) + 1 : Nat) : Int) else 0
theorem toA_len (s : List Int) : (toA s).length = 24 := by simp [toA]
theorem toA_at (s : List Int) {v : Nat} (hv : v < 24) : (ints (toA s))[v]? = some (.int .i64 (if (-1 - (v : Int)) ∈ s then ((s.idxOf (-1 - (v : Int)) + 1 : Nat) : Int) else 0)) := by
  simp [ints, toA, hv]
theorem toA_set {s : List Int} {v : Nat} (hv : v < 24) (hs : ¬ (-1 - (v : Int)) ∈ s) : (ints (toA s)).set v (.int .i64 ((s.length + 1 : Nat) : Int)) = ints (toA (s ++ [-1 - (v : Int)])) := by
  have h1 : (toA s).set v ((s.length + 1 : Nat) : Int) = toA (s ++ [-1 - (v : Int)]) := by
    refine List.ext_getElem (by simp [toA]) (fun i h1 h2 => ?_)
    have hi : i < 24 := by simpa [toA] using h1
    rw [List.getElem_set]
    by_cases hvi : v = i
    · subst hvi
      rw [if_pos rfl]
      simp only [toA, List.getElem_map, List.getElem_range]
      rw [if_pos (by simp), List.idxOf_append, if_neg hs]
      simp
    · rw [if_neg hvi]
      simp only [toA, List.getElem_map, List.getElem_range, List.mem_append, List.mem_singleton]
      have hne : ¬ (-1 - (i : Int)) = -1 - (v : Int) := by omega
      by_cases hm : (-1 - (i : Int)) ∈ s
      · rw [if_pos hm, if_pos (.inl hm), List.idxOf_append, if_pos hm]
      · rw [if_neg hm, if_neg (by rintro (h | h); exact hm h; exact hne h)]
  rw [← h1]; simp [ints, List.map_set]
/-- A row's codes one by one, as the variables come up. -/
def stepR : List Int → List Int → List Int
  | _, [] => []
  | s, c :: r => renC (addS s c) c :: stepR (addS s c) r
theorem stepR_ren : ∀ (r s : List Int), stepR s r = renR (seenR s r) r
  | [], s => rfl
  | c :: r, s => by
    obtain ⟨t, ht⟩ := pre_seenR r (addS s c)
    have h1 : renC (seenR (addS s c) r) c = renC (addS s c) c := by
      rw [ht]; exact ren_pre t (fun h0 => mem_addS.2 (.inr ⟨rfl, h0⟩))
    show renC (addS s c) c :: stepR (addS s c) r = renR (seenR (addS s c) r) (c :: r)
    rw [renR, List.map_cons, h1, stepR_ren r (addS s c)]; rfl
theorem ints_mid (a b : List Int) (c : Int) : (ints (a ++ c :: b))[a.length]? = some (.int .i64 c) := by simp [ints]
theorem ints_midset (a b : List Int) (c d : Int) : (ints (a ++ c :: b)).set a.length (.int .i64 d) = ints (a ++ d :: b) := by simp [ints]
/-- Variables of which there are twenty-four at most. -/
structure SeenOk (s : List Int) : Prop where
  nd : s.Nodup
  neg : ∀ c ∈ s, c < 0 ∧ -24 ≤ c
theorem SeenOk.len {s : List Int} (h : SeenOk s) : s.length ≤ 24 := by
  have := sub_len s (firsts 24) h.nd (fun x hx => mem_firsts.2 ⟨(h.neg x hx).1, by have := (h.neg x hx).2; omega⟩)
  rwa [firsts_len] at this
theorem SeenOk.add {s : List Int} (h : SeenOk s) {c : Int} (hc : -24 ≤ c) : SeenOk (addS s c) :=
  ⟨nodup_addS h.nd, fun x hx => by
    rcases mem_addS.1 hx with h1 | ⟨rfl, h1⟩
    · exact h.neg x h1
    · exact ⟨h1, hc⟩⟩
theorem SeenOk.row : ∀ {r s : List Int}, SeenOk s → (∀ c ∈ r, -24 ≤ c) → SeenOk (seenR s r)
  | [], s, h, _ => h
  | c :: r, s, h, hc => SeenOk.row (r := r) (h.add (hc c (by simp))) (fun x hx => hc x (by simp [hx]))
theorem SeenOk.rows : ∀ {rs : List (List Int)} {s : List Int}, SeenOk s → (∀ r ∈ rs, ∀ c ∈ r, -24 ≤ c) → SeenOk (seenRs s rs)
  | [], s, h, _ => h
  | r :: rs, s, h, hc => SeenOk.rows (rs := rs) (h.row (hc r (by simp))) (fun x hx => hc x (by simp [hx]))
theorem w_anew2 {r : List Int} (hr : Len r) (z : Bool) (hz : z = true → r = []) (hc : ∀ c ∈ r, -24 ≤ c) (e : List D) {s : List Int} (hs : SeenOk s) : C 79 [iS z r e, .dbox 101 0 (ints (toA s)), .dbox 3 0 [.int .i64 s.length]] = some (.own z 3 1 (ints (stepR s r)), [iS z r e, .dbox 101 0 (ints (toA (seenR s r))), .dbox 3 0 [.int .i64 (seenR s r).length]]) := by
  refine wfn (lk := [1, 2]) rfl rfl (fnW_way (q79 _ _ z (ints r) e (ints (toA s)) s.length _) ?_)
  have hcl := w_clone hr z hz e
  have h1 := fun x hx => blk_fun (F := F) (d := d79) (lk := [1, 2]) (p := [1,1,0,1,0,0]) (p0 := [1,1,0,1]) (id := 0) (by kernel_rfl) (st := fun (x : List Int × List Int × List Int) => [(1, .dbox 101 0 (ints (toA x.2.2))), (2, .dbox 3 0 [.int .i64 x.2.2.length]), (5, .own z 3 1 (ints (x.1 ++ x.2.1))), (11, iI r.length), (12, iI x.1.length), (2010045, .dead)]) (I := fun x => x.1.length + x.2.1.length = r.length ∧ SeenOk x.2.2 ∧ ∀ c ∈ x.2.1, -24 ≤ c) (μ := fun x => x.2.1.length)
    (res := fun x => .norm [(1, .dbox 101 0 (ints (toA (seenR x.2.2 x.2.1)))), (2, .dbox 3 0 [.int .i64 (seenR x.2.2 x.2.1).length]), (5, .own z 3 1 (ints (x.1 ++ stepR x.2.2 x.2.1))), (11, iI r.length), (12, iI r.length), (2010045, .dead)])
    (fun x hx => by
      obtain ⟨a, b, s⟩ := x
      obtain ⟨hx1, hx2, hx3⟩ := hx
      dsimp only at hx1 hx2 hx3
      cases b with
      | nil =>
        have e1 : a.length = r.length := by simpa using hx1
        refine .stop (.exit 0 [(1, .dbox 101 0 (ints (toA s))), (2, .dbox 3 0 [.int .i64 s.length]), (5, .own z 3 1 (ints (a ++ []))), (11, iI r.length), (12, iI a.length), (2010045, .dead)]) (wpQ_way (q79_l0a _ _ (ints (toA s)) s.length z (ints (a ++ [])) r.length a.length _) (by simp [e1])) rfl ?_
        simp [blkO, e1, stepR, seenR]
      | cons c b =>
        have hlen : a.length < r.length := by simp at hx1; omega
        have hi' : (a.length : Int) < r.length := by omega
        have hi0 : (0 : Int) ≤ (a.length : Int) := by omega
        have hr' : r.length ≤ 9223372036854775807 := by unfold Len at hr; omega
        have hc := hx3 c (by simp)
        have hok := hx2.len
        have ha := ints_mid a b c
        have hw1 : IntKind.wrap .i64 ((a.length : Int) + 1) = ((a ++ [renC (addS s c) c]).length : Int) := by rw [wr1 hlen hr']; simp
        have hst : ∀ d : Int, a ++ d :: b = (a ++ [d]) ++ b := fun d => by simp
        by_cases h0 : 0 ≤ c
        · have hs' : addS s c = s := by simp [addS, h0]
          have hrc : renC s c = c := by simp [renC, h0]
          have h0n : ¬ c < 0 := by omega
          refine .go (a ++ [c], b, s) (wpQ_way (q79_l0a _ _ (ints (toA s)) s.length z (ints (a ++ c :: b)) r.length a.length _) ?_) ⟨by simp at hx1 ⊢; omega, hx2, fun x hx => hx3 x (by simp [hx])⟩ (by simp) ?_
          · rw [hs', hrc] at hw1
            simp [-Bool.exists_bool, -getElem?_pos, -Int.natCast_add, -List.length_append, hi', ha, h0, h0n, hw1]
          · dsimp only; rw [stepR, hs', hrc]; simp [seenR, hs']
        · have hn := w_number c
          have hv1 : IntKind.wrap .i64 (-1 - c) = ((-1 - c).toNat : Int) := by rw [wr _ (by omega) (by omega)]; omega
          obtain ⟨v, hv⟩ : ∃ v : Nat, v = (-1 - c).toNat := ⟨_, rfl⟩
          have hcv : c = -1 - (v : Int) := by omega
          have hv24 : v < 24 := by omega
          rw [hv1, ← hv] at hn
          have hta := toA_at s hv24
          rw [← hcv] at hta
          have hvi : (v : Int) < 24 := by omega
          by_cases hm : c ∈ s
          · have hs' : addS s c = s := by simp [addS, h0, hm]
            have hrc : renC s c = -1 - (s.idxOf c : Nat) := by simp [renC, h0]
            rw [if_pos hm] at hta
            have hne : ¬ ((s.idxOf c + 1 : Nat) : Int) = 0 := by omega
            have hil := List.idxOf_lt_length_of_mem hm
            have hw2 : IntKind.wrap .i64 (0 - ((s.idxOf c + 1 : Nat) : Int)) = renC s c := by rw [wr _ (by omega) (by omega), hrc]; omega
            have hw2n := hw2
            rw [Int.zero_sub] at hw2n
            refine .go (a ++ [renC s c], b, s) (wpQ_way (q79_l0a _ _ (ints (toA s)) s.length z (ints (a ++ c :: b)) r.length a.length _) ?_) ⟨by simp at hx1 ⊢; omega, hx2, fun x hx => hx3 x (by simp [hx])⟩ (by simp) ?_
            · rw [hs'] at hw1
              have hset := ints_midset a b c (renC s c)
              simp [-Bool.exists_bool, -getElem?_pos, -Int.natCast_add, -List.length_append, hi', ha, h0, hw1, hn, hta, hvi, hne, hw2, hw2n, hset]
            · dsimp only; rw [stepR, hs']; simp [seenR, hs']
          · have hs' : addS s c = s ++ [c] := by simp [addS, h0, hm]
            have hrc : renC (s ++ [c]) c = -1 - (s.length : Nat) := by
              rw [renC, if_neg h0, List.idxOf_append, if_neg hm]; simp
            rw [if_neg hm] at hta
            have hw2 : IntKind.wrap .i64 ((s.length : Int) + 1) = ((s.length + 1 : Nat) : Int) := by rw [wr _ (by omega) (by omega)]; omega
            have hw3 : IntKind.wrap .i64 (0 - ((s.length + 1 : Nat) : Int)) = renC (s ++ [c]) c := by rw [wr _ (by omega) (by omega), hrc]; omega
            have hw3n := hw3
            rw [Int.zero_sub] at hw3n
            have hm' : ¬ (-1 - (v : Int)) ∈ s := by rw [← hcv]; exact hm
            have hset := toA_set hv24 hm'
            rw [← hcv] at hset
            have hta2 := toA_at (s ++ [c]) hv24
            rw [← hcv, if_pos (by simp), List.idxOf_append, if_neg hm] at hta2
            have hix : List.idxOf c [c] + s.length + 1 = s.length + 1 := by simp
            rw [hix] at hta2
            refine .go (a ++ [renC (s ++ [c]) c], b, s ++ [c]) (wpQ_way (q79_l0a _ _ (ints (toA s)) s.length z (ints (a ++ c :: b)) r.length a.length _) ?_) ⟨by simp at hx1 ⊢; omega, by rw [← hs']; exact hx2.add hc, fun x hx => hx3 x (by simp [hx])⟩ (by simp) ?_
            · rw [hs'] at hw1
              have hset2 := ints_midset a b c (renC (s ++ [c]) c)
              have hv23 : (v : Int) ≤ 23 := by omega
              have hlt : v + 1 ≤ 24 := hv24
              have hls : ((s ++ [c]).length : Int) = ((s.length + 1 : Nat) : Int) := by simp
              rw [hls]
              simp [-Bool.exists_bool, -getElem?_pos, -Int.natCast_add, -List.length_append, hi', ha, h0, hw1, hn, hta, hvi, hw2, hw3, hw3n, hset2, hset, hta2, hv23, ints_len, toA_len, hlt, D.cells, setR]
            · dsimp only; rw [stepR, hs']; simp [seenR, hs']) x hx
  have h2 : evP F (Go.Ab.W F) (JW F d79 [1, 2]) d79 [1, 2] [1,1,0,1] [(1, .dbox 101 0 (ints (toA s))), (2, .dbox 3 0 [.int .i64 s.length]), (5, .own z 3 1 (ints r)), (11, iI r.length), (12, iI 0), (2010045, .dead)] = _ := h1 ([], r, s) ⟨by simp, hs, hc⟩
  rw [List.nil_append] at h2
  refine ⟨_, _, _, hcl, ?_⟩
  rw [ints_len]
  exact ⟨_, _, _, _, _, _, h2, rfl⟩
/-- Literals, rows, one by one. -/
def eachL : List Int → List LitR → List LitR
  | _, [] => []
  | s, l :: ls => ⟨l.neg, ⟨l.r.z, stepR s l.r.l, []⟩⟩ :: eachL (seenR s l.r.l) ls
def eachR : List Int → List Row → List Row
  | _, [] => []
  | s, r :: rs => ⟨r.z, stepR s r.l, []⟩ :: eachR (seenR s r.l) rs
structure RowOk (r : Row) : Prop where
  len : Len r.l
  nil : r.z = true → r.l = []
  cod : ∀ c ∈ r.l, -24 ≤ c
abbrev seenLs (s : List Int) (ls : List LitR) : List Int := seenRs s (ls.map fun l => l.r.l)
abbrev seenTs (s : List Int) (ts : List Row) : List Int := seenRs s (ts.map fun r => r.l)
abbrev fA (s : List Int) : IV := .fn 79 [.dbox 101 0 (ints (toA s)), .dbox 3 0 [.int .i64 s.length]]
abbrev bC (c : Cl) : IV := .dbox 26 0 [.sl 2 c.lz (lits c.ls) c.le, .sl 1 c.tz (rws c.ts) c.te, .sl 2 c.cz (lits c.cs) c.ce]
abbrev b0 : IV := .dbox 26 0 [.sl 2 true [] [], .sl 1 true [] [], .sl 2 true [] []]
abbrev bO (us : List LitR) (vs : List Row) (ws : List LitR) : IV := .ptr 26 0 [.own us.isEmpty 57 2 (lits us), .own vs.isEmpty 33 1 (rws vs), .own ws.isEmpty 57 2 (lits ws)]
theorem l_each0 {c : Cl} (hn : c.ls.length ≤ 1000) (hr : ∀ l ∈ c.ls, RowOk l.r) (vs : List Row) (ws : List LitR) (x : List LitR × Nat × List Int) (hx : x.2.1 ≤ c.ls.length ∧ x.1.length = x.2.1 ∧ SeenOk x.2.2) : evP F (Go.Ab.W F) (JW F d78 [1]) d78 [1] [1,1,0,1] [(1, fA x.2.2), (2, bC c), (4, b0), (5, bO x.1 vs ws), (13, iL c.lz c.ls c.le), (14, iI c.ls.length), (15, iI x.2.1)] = some (.norm [(1, fA (seenLs x.2.2 (c.ls.drop x.2.1))), (2, bC c), (4, b0), (5, bO (x.1 ++ eachL x.2.2 (c.ls.drop x.2.1)) vs ws), (13, iL c.lz c.ls c.le), (14, iI c.ls.length), (15, iI c.ls.length)]) :=
  blk_fun (F := F) (d := d78) (lk := [1]) (p := [1,1,0,1,0,0]) (p0 := [1,1,0,1]) (id := 0) (by kernel_rfl) (st := fun (x : List LitR × Nat × List Int) => [(1, fA x.2.2), (2, bC c), (4, b0), (5, bO x.1 vs ws), (13, iL c.lz c.ls c.le), (14, iI c.ls.length), (15, iI x.2.1)]) (I := fun x => x.2.1 ≤ c.ls.length ∧ x.1.length = x.2.1 ∧ SeenOk x.2.2) (μ := fun x => c.ls.length - x.2.1)
    (res := fun x => .norm [(1, fA (seenLs x.2.2 (c.ls.drop x.2.1))), (2, bC c), (4, b0), (5, bO (x.1 ++ eachL x.2.2 (c.ls.drop x.2.1)) vs ws), (13, iL c.lz c.ls c.le), (14, iI c.ls.length), (15, iI c.ls.length)])
    (fun x hx => by
      obtain ⟨us, i, s⟩ := x
      obtain ⟨hx1, hx2, hx3⟩ := hx
      dsimp only at hx1 hx2 hx3
      by_cases hi : i < c.ls.length
      · obtain ⟨l, hl1⟩ := at_lt hi
        have hd : c.ls.drop i = l :: c.ls.drop (i + 1) := by
          rw [List.drop_eq_getElem_cons hi]
          rw [List.getElem?_eq_getElem hi] at hl1
          cases hl1; rfl
        have hok := hr l (List.mem_of_getElem? hl1)
        have hc := w_anew2 hok.len l.r.z hok.nil hok.cod l.r.e hx3
        have hi' : (i : Int) < c.ls.length := by omega
        refine .go (us ++ [⟨l.neg, ⟨l.r.z, stepR s l.r.l, []⟩⟩], i + 1, seenR s l.r.l) (wpQ_way (q78_l0a _ _ (ints (toA s)) s.length c.lz (lits c.ls) c.le c.tz (rws c.ts) c.te c.cz (lits c.cs) c.ce us.isEmpty (lits us) vs.isEmpty (rws vs) ws.isEmpty (lits ws) c.lz (lits c.ls) c.le c.ls.length i _) ?_) ⟨by dsimp only; omega, by simp; omega, hx3.row hok.cod⟩ (by dsimp only; omega) ?_
        · have k1 : us.length + 1 ≤ 9223372036854775807 := by omega
          have k2 : (us.length + 1) * 32 ≤ 140737488355328 := by omega
          cases hneg : l.neg <;> simp [-Bool.exists_bool, -getElem?_pos, -Int.natCast_add, hi', lits_at hl1, hneg, hc, wr1 hi (by omega), lits_len, k1, k2, lits_append, lits_cons, lits_nil]
        · dsimp only; rw [hd]; simp [eachL, seenRs]
      · have e1 : i = c.ls.length := by omega
        subst e1
        refine .stop (.exit 0 [(1, fA s), (2, bC c), (4, b0), (5, bO us vs ws), (13, iL c.lz c.ls c.le), (14, iI c.ls.length), (15, iI c.ls.length)]) (wpQ_way (q78_l0a _ _ (ints (toA s)) s.length c.lz (lits c.ls) c.le c.tz (rws c.ts) c.te c.cz (lits c.cs) c.ce us.isEmpty (lits us) vs.isEmpty (rws vs) ws.isEmpty (lits ws) c.lz (lits c.ls) c.le c.ls.length _ _) (by simp)) rfl ?_
        simp [blkO, eachL, seenRs]) x hx
theorem l_each2 {c : Cl} (hn : c.ts.length ≤ 1000) (hr : ∀ r ∈ c.ts, RowOk r) (us : List LitR) (ws : List LitR) (x : List Row × Nat × List Int) (hx : x.2.1 ≤ c.ts.length ∧ x.1.length = x.2.1 ∧ SeenOk x.2.2) : evP F (Go.Ab.W F) (JW F d78 [1]) d78 [1] [1,1,1,0,1] [(1, fA x.2.2), (2, bC c), (4, b0), (5, bO us x.1 ws), (33, iR c.tz c.ts c.te), (34, iI c.ts.length), (35, iI x.2.1)] = some (.norm [(1, fA (seenTs x.2.2 (c.ts.drop x.2.1))), (2, bC c), (4, b0), (5, bO us (x.1 ++ eachR x.2.2 (c.ts.drop x.2.1)) ws), (33, iR c.tz c.ts c.te), (34, iI c.ts.length), (35, iI c.ts.length)]) :=
  blk_fun (F := F) (d := d78) (lk := [1]) (p := [1,1,1,0,1,0,0]) (p0 := [1,1,1,0,1]) (id := 2) (by kernel_rfl) (st := fun (x : List Row × Nat × List Int) => [(1, fA x.2.2), (2, bC c), (4, b0), (5, bO us x.1 ws), (33, iR c.tz c.ts c.te), (34, iI c.ts.length), (35, iI x.2.1)]) (I := fun x => x.2.1 ≤ c.ts.length ∧ x.1.length = x.2.1 ∧ SeenOk x.2.2) (μ := fun x => c.ts.length - x.2.1)
    (res := fun x => .norm [(1, fA (seenTs x.2.2 (c.ts.drop x.2.1))), (2, bC c), (4, b0), (5, bO us (x.1 ++ eachR x.2.2 (c.ts.drop x.2.1)) ws), (33, iR c.tz c.ts c.te), (34, iI c.ts.length), (35, iI c.ts.length)])
    (fun x hx => by
      obtain ⟨vs, i, s⟩ := x
      obtain ⟨hx1, hx2, hx3⟩ := hx
      dsimp only at hx1 hx2 hx3
      by_cases hi : i < c.ts.length
      · obtain ⟨l, hl1⟩ := at_lt hi
        have hd : c.ts.drop i = l :: c.ts.drop (i + 1) := by
          rw [List.drop_eq_getElem_cons hi]
          rw [List.getElem?_eq_getElem hi] at hl1
          cases hl1; rfl
        have hok := hr l (List.mem_of_getElem? hl1)
        have hc := w_anew2 hok.len l.z hok.nil hok.cod l.e hx3
        have hi' : (i : Int) < c.ts.length := by omega
        refine .go (vs ++ [⟨l.z, stepR s l.l, []⟩], i + 1, seenR s l.l) (wpQ_way (q78_l2a _ _ (ints (toA s)) s.length c.lz (lits c.ls) c.le c.tz (rws c.ts) c.te c.cz (lits c.cs) c.ce us.isEmpty (lits us) vs.isEmpty (rws vs) ws.isEmpty (lits ws) c.tz (rws c.ts) c.te c.ts.length i _) ?_) ⟨by dsimp only; omega, by simp; omega, hx3.row hok.cod⟩ (by dsimp only; omega) ?_
        · have k1 : vs.length + 1 ≤ 9223372036854775807 := by omega
          have k2 : (vs.length + 1) * 24 ≤ 140737488355328 := by omega
          simp [-Bool.exists_bool, -getElem?_pos, -Int.natCast_add, hi', rws_at hl1, hc, wr1 hi (by omega), rws_len, k1, k2, rws_append, rws_cons, rws_nil]
        · dsimp only; rw [hd]; simp [eachR, seenRs]
      · have e1 : i = c.ts.length := by omega
        subst e1
        refine .stop (.exit 2 [(1, fA s), (2, bC c), (4, b0), (5, bO us vs ws), (33, iR c.tz c.ts c.te), (34, iI c.ts.length), (35, iI c.ts.length)]) (wpQ_way (q78_l2a _ _ (ints (toA s)) s.length c.lz (lits c.ls) c.le c.tz (rws c.ts) c.te c.cz (lits c.cs) c.ce us.isEmpty (lits us) vs.isEmpty (rws vs) ws.isEmpty (lits ws) c.tz (rws c.ts) c.te c.ts.length _ _) (by simp)) rfl ?_
        simp [blkO, eachR, seenRs]) x hx
theorem l_each4 {c : Cl} (hn : c.cs.length ≤ 1000) (hr : ∀ l ∈ c.cs, RowOk l.r) (us : List LitR) (vs : List Row) (x : List LitR × Nat × List Int) (hx : x.2.1 ≤ c.cs.length ∧ x.1.length = x.2.1 ∧ SeenOk x.2.2) : evP F (Go.Ab.W F) (JW F d78 [1]) d78 [1] [1,1,1,1,0,1] [(1, fA x.2.2), (4, b0), (5, bO us vs x.1), (49, iL c.cz c.cs c.ce), (50, iI c.cs.length), (51, iI x.2.1)] = some (.norm [(1, fA (seenLs x.2.2 (c.cs.drop x.2.1))), (4, b0), (5, bO us vs (x.1 ++ eachL x.2.2 (c.cs.drop x.2.1))), (49, iL c.cz c.cs c.ce), (50, iI c.cs.length), (51, iI c.cs.length)]) :=
  blk_fun (F := F) (d := d78) (lk := [1]) (p := [1,1,1,1,0,1,0,0]) (p0 := [1,1,1,1,0,1]) (id := 4) (by kernel_rfl) (st := fun (x : List LitR × Nat × List Int) => [(1, fA x.2.2), (4, b0), (5, bO us vs x.1), (49, iL c.cz c.cs c.ce), (50, iI c.cs.length), (51, iI x.2.1)]) (I := fun x => x.2.1 ≤ c.cs.length ∧ x.1.length = x.2.1 ∧ SeenOk x.2.2) (μ := fun x => c.cs.length - x.2.1)
    (res := fun x => .norm [(1, fA (seenLs x.2.2 (c.cs.drop x.2.1))), (4, b0), (5, bO us vs (x.1 ++ eachL x.2.2 (c.cs.drop x.2.1))), (49, iL c.cz c.cs c.ce), (50, iI c.cs.length), (51, iI c.cs.length)])
    (fun x hx => by
      obtain ⟨ws, i, s⟩ := x
      obtain ⟨hx1, hx2, hx3⟩ := hx
      dsimp only at hx1 hx2 hx3
      by_cases hi : i < c.cs.length
      · obtain ⟨l, hl1⟩ := at_lt hi
        have hd : c.cs.drop i = l :: c.cs.drop (i + 1) := by
          rw [List.drop_eq_getElem_cons hi]
          rw [List.getElem?_eq_getElem hi] at hl1
          cases hl1; rfl
        have hok := hr l (List.mem_of_getElem? hl1)
        have hc := w_anew2 hok.len l.r.z hok.nil hok.cod l.r.e hx3
        have hi' : (i : Int) < c.cs.length := by omega
        refine .go (ws ++ [⟨l.neg, ⟨l.r.z, stepR s l.r.l, []⟩⟩], i + 1, seenR s l.r.l) (wpQ_way (q78_l4a _ _ (ints (toA s)) s.length us.isEmpty (lits us) vs.isEmpty (rws vs) ws.isEmpty (lits ws) c.cz (lits c.cs) c.ce c.cs.length i _) ?_) ⟨by dsimp only; omega, by simp; omega, hx3.row hok.cod⟩ (by dsimp only; omega) ?_
        · have k1 : ws.length + 1 ≤ 9223372036854775807 := by omega
          have k2 : (ws.length + 1) * 32 ≤ 140737488355328 := by omega
          cases hneg : l.neg <;> simp [-Bool.exists_bool, -getElem?_pos, -Int.natCast_add, hi', lits_at hl1, hneg, hc, wr1 hi (by omega), lits_len, k1, k2, lits_append, lits_cons, lits_nil]
        · dsimp only; rw [hd]; simp [eachL, seenRs]
      · have e1 : i = c.cs.length := by omega
        subst e1
        refine .stop (.exit 4 [(1, fA s), (4, b0), (5, bO us vs ws), (49, iL c.cz c.cs c.ce), (50, iI c.cs.length), (51, iI c.cs.length)]) (wpQ_way (q78_l4a _ _ (ints (toA s)) s.length us.isEmpty (lits us) vs.isEmpty (rws vs) ws.isEmpty (lits ws) c.cz (lits c.cs) c.ce c.cs.length _ _) (by simp)) rfl ?_
        simp [blkO, eachL, seenRs]) x hx
structure ClRow (c : Cl) : Prop where
  l5 : c.ls.length ≤ 1000
  t3 : c.ts.length ≤ 1000
  c3 : c.cs.length ≤ 1000
  ls : ∀ l ∈ c.ls, RowOk l.r
  ts : ∀ r ∈ c.ts, RowOk r
  cs : ∀ l ∈ c.cs, RowOk l.r
theorem w_each {c : Cl} (h : ClRow c) {s : List Int} (hs : SeenOk s) : C 78 [iC c, fA s] = some (.agg [.own (eachL s c.ls).isEmpty 57 2 (lits (eachL s c.ls)), .own (eachR (seenLs s c.ls) c.ts).isEmpty 33 1 (rws (eachR (seenLs s c.ls) c.ts)), .own (eachL (seenTs (seenLs s c.ls) c.ts) c.cs).isEmpty 57 2 (lits (eachL (seenTs (seenLs s c.ls) c.ts) c.cs))], [iC c, fA (seenLs (seenTs (seenLs s c.ls) c.ts) c.cs)]) := by
  refine wfn (lk := [1]) rfl rfl (fnW_way (q78 _ _ c.lz (lits c.ls) c.le c.tz (rws c.ts) c.te c.cz (lits c.cs) c.ce (ints (toA s)) s.length _) ?_)
  have hs1 : SeenOk (seenLs s c.ls) := hs.rows (fun r hr => by
    obtain ⟨l, hl, rfl⟩ := List.mem_map.1 hr
    exact (h.ls l hl).cod)
  have hs2 : SeenOk (seenTs (seenLs s c.ls) c.ts) := hs1.rows (fun r hr => by
    obtain ⟨l, hl, rfl⟩ := List.mem_map.1 hr
    exact (h.ts l hl).cod)
  have h1 := l_each0 h.l5 h.ls [] [] ([], 0, s) ⟨Nat.zero_le _, rfl, hs⟩
  have h2 := l_each2 h.t3 h.ts (eachL s c.ls) [] ([], 0, seenLs s c.ls) ⟨Nat.zero_le _, rfl, hs1⟩
  have h3 := l_each4 h.c3 h.cs (eachL s c.ls) (eachR (seenLs s c.ls) c.ts) ([], 0, seenTs (seenLs s c.ls) c.ts) ⟨Nat.zero_le _, rfl, hs2⟩
  simp only [List.drop_zero, List.nil_append] at h1 h2 h3
  rw [lits_len]
  refine ⟨_, _, _, _, _, _, _, _, _, _, _, _, _, _, _, _, _, _, _, _, _, _, h1, ?_⟩
  rw [rws_len]
  refine ⟨_, _, _, _, _, _, _, _, _, _, _, _, _, _, _, _, _, _, _, _, _, _, h2, ?_⟩
  rw [lits_len]
  exact ⟨_, _, _, _, _, _, _, _, _, _, _, _, _, h3, rfl⟩
end Go.Proofs.YtjhganbjbiihoaaDoor.Ab

/- Normal clauses, clauses that are the same: what the program's functions hand back. For every input; no condition. -/
set_option linter.unusedVariables false
set_option linter.unusedSimpArgs false
set_option maxRecDepth 100000
namespace Go.Proofs.YtjhganbjbiihoaaDoor.Ab
open Go Go.Ab Go.Qu Go.Proofs
attribute [local simp] and_assoc
theorem seenR_self {s r : List Int} : ∀ c ∈ r, c < 0 → c ∈ seenR s r := fun c hc h0 => mem_seenR.2 (.inr ⟨hc, h0⟩)
theorem eachL_c : ∀ (ls : List LitR) (s t : List Int), (eachL s ls).map LitR.c = ls.map fun l => (l.neg, renR (seenLs s ls ++ t) l.r.l)
  | [], s, t => rfl
  | l :: ls, s, t => by
    have e1 : seenLs s (l :: ls) = seenLs (seenR s l.r.l) ls := rfl
    obtain ⟨u, hu⟩ := pre_seenRs (ls.map fun l => l.r.l) (seenR s l.r.l)
    rw [eachL, List.map_cons, List.map_cons, e1, eachL_c ls (seenR s l.r.l) t]
    congr 1
    show (l.neg, stepR s l.r.l) = _
    rw [stepR_ren, show seenLs (seenR s l.r.l) ls = seenR s l.r.l ++ u from hu, List.append_assoc, renR_pre (u ++ t) seenR_self]
theorem eachR_c : ∀ (ts : List Row) (s t : List Int), (eachR s ts).map (·.l) = ts.map fun r => renR (seenTs s ts ++ t) r.l
  | [], s, t => rfl
  | r :: ts, s, t => by
    have e1 : seenTs s (r :: ts) = seenTs (seenR s r.l) ts := rfl
    obtain ⟨u, hu⟩ := pre_seenRs (ts.map fun r => r.l) (seenR s r.l)
    rw [eachR, List.map_cons, List.map_cons, e1, eachR_c ts (seenR s r.l) t]
    congr 1
    show stepR s r.l = _
    rw [stepR_ren, show seenTs (seenR s r.l) ts = seenR s r.l ++ u from hu, List.append_assoc, renR_pre (u ++ t) seenR_self]
/-- A clause each part of which stands once. -/
def onceC' (c : Cl) : Cl := ⟨(onceK LitR.c [] c.ls).isEmpty, onceK LitR.c [] c.ls, [], (onceK (fun r : Row => r.l) [] c.ts).isEmpty, onceK (fun r : Row => r.l) [] c.ts, [], (onceK LitR.c [] c.cs).isEmpty, onceK LitR.c [] c.cs, []⟩
def renumC (c : Cl) : Cl := ⟨(eachL [] c.ls).isEmpty, eachL [] c.ls, [], (eachR (seenLs [] c.ls) c.ts).isEmpty, eachR (seenLs [] c.ls) c.ts, [], (eachL (seenTs (seenLs [] c.ls) c.ts) c.cs).isEmpty, eachL (seenTs (seenLs [] c.ls) c.ts) c.cs, []⟩
def anewC (c : Cl) : Cl := renumC (onceC' c)
theorem seen_app (s : List Int) (a b : List (List Int)) : seenRs s (a ++ b) = seenRs (seenRs s a) b := List.foldl_append
theorem renum_c (c : Cl) : (renumC c).c = renCC (seenRs [] c.c.rows) c.c := by
  have e1 : seenRs [] c.c.rows = seenLs (seenTs (seenLs [] c.ls) c.ts) c.cs := by
    simp only [CC.rows, Cl.c, List.map_map, seen_app]; rfl
  obtain ⟨u, hu⟩ := pre_seenRs (c.cs.map fun l => l.r.l) (seenTs (seenLs [] c.ls) c.ts)
  obtain ⟨v, hv⟩ := pre_seenRs (c.ts.map fun r => r.l) (seenLs [] c.ls)
  have e2 : seenRs [] c.c.rows = seenTs (seenLs [] c.ls) c.ts ++ u := e1.trans hu
  have e3 : seenRs [] c.c.rows = seenLs [] c.ls ++ (v ++ u) := by rw [e2, ← List.append_assoc]; exact congrArg (· ++ u) hv
  have h1 := eachL_c c.ls [] (v ++ u)
  have h2 := eachR_c c.ts (seenLs [] c.ls) u
  have h3 := eachL_c c.cs (seenTs (seenLs [] c.ls) c.ts) []
  rw [← e3] at h1
  rw [← e2] at h2
  rw [List.append_nil, ← e1] at h3
  generalize seenRs [] c.c.rows = S at *
  unfold renumC Cl.c renCC
  dsimp only
  rw [h1, h2, h3]
  simp [List.map_map, Function.comp_def, renL, LitR.c]
theorem once_c (c : Cl) : (onceC' c).c = onceC c.c := by
  unfold onceC' Cl.c onceC
  dsimp only
  rw [once_map, once_map, once_map]; rfl
theorem anew_c (c : Cl) : (anewC c).c = normC c.c := by
  rw [anewC, renum_c, once_c]; rfl
theorem clRow_once {c : Cl} (h : ClRow c) : ClRow (onceC' c) :=
  ⟨Nat.le_trans (once_len LitR.c c.ls []) (by simpa using h.l5), Nat.le_trans (once_len (fun r : Row => r.l) c.ts []) (by simpa using h.t3), Nat.le_trans (once_len LitR.c c.cs []) (by simpa using h.c3),
   fun l hl => h.ls l (by simpa using once_sub LitR.c c.ls [] l hl), fun r hr => h.ts r (by simpa using once_sub (fun r : Row => r.l) c.ts [] r hr), fun l hl => h.cs l (by simpa using once_sub LitR.c c.cs [] l hl)⟩
abbrev oC (c : Cl) : IV := .agg [.own c.lz 57 2 (lits c.ls), .own c.tz 33 1 (rws c.ts), .own c.cz 57 2 (lits c.cs)]
theorem w_anew {c : Cl} (h : ClRow c) : C 44 [iC c] = some (oC (anewC c), [iC c]) := by
  refine wfn (lk := []) rfl rfl (fnW_way (q44 _ _ c.lz (lits c.ls) c.le c.tz (rws c.ts) c.te c.cz (lits c.cs) c.ce _) ?_)
  have h1 := w_clonce h.l5 (fun l hl => (h.ls l hl).len) c.lz c.le
  have h2 := w_clonce h.c3 (fun l hl => (h.cs l hl).len) c.cz c.ce
  have h3 := fun x hx => blk_fun (F := F) (d := d44) (lk := []) (p := [1,1,0,1,0,0]) (p0 := [1,1,0,1]) (id := 0) (by kernel_rfl) (st := fun (x : List Row × Nat) => [(2, b0), (3, bO (onceK LitR.c [] c.ls) x.1 (onceK LitR.c [] c.cs)), (16, iR c.tz c.ts c.te), (17, iI c.ts.length), (18, iI x.2)]) (I := fun x => x.2 ≤ c.ts.length ∧ x.1.length ≤ x.2) (μ := fun x => c.ts.length - x.2)
    (res := fun x => .norm [(2, b0), (3, bO (onceK LitR.c [] c.ls) (onceK (fun r : Row => r.l) x.1 (c.ts.drop x.2)) (onceK LitR.c [] c.cs)), (16, iR c.tz c.ts c.te), (17, iI c.ts.length), (18, iI c.ts.length)])
    (fun x hx => by
      obtain ⟨us, i⟩ := x
      obtain ⟨hx1, hx2⟩ := hx
      dsimp only at hx1 hx2
      have hb := h.t3
      by_cases hi : i < c.ts.length
      · obtain ⟨l, hl1⟩ := at_lt hi
        have hd : c.ts.drop i = l :: c.ts.drop (i + 1) := by
          rw [List.drop_eq_getElem_cons hi]
          rw [List.getElem?_eq_getElem hi] at hl1
          cases hl1; rfl
        have hc := w_hasrow (h.ts l (List.mem_of_getElem? hl1)).len (ts := us) (by omega) us.isEmpty []
        have hi' : (i : Int) < c.ts.length := by omega
        by_cases hm : l.l ∈ us.map (fun r : Row => r.l)
        · rw [decide_eq_true hm] at hc
          refine .go (us, i + 1) (wpQ_way (q44_l0a _ _ _ (lits (onceK LitR.c [] c.ls)) us.isEmpty (rws us) _ (lits (onceK LitR.c [] c.cs)) c.tz (rws c.ts) c.te _ i _) ?_) ⟨by dsimp only; omega, by dsimp only; omega⟩ (by dsimp only; omega) ?_
          · simp [-Bool.exists_bool, -getElem?_pos, -Int.natCast_add, hi', rws_at hl1, hc, wr1 hi (by omega)]
          · dsimp only; rw [hd, onceK, if_pos hm]
        · rw [decide_eq_false hm] at hc
          refine .go (us ++ [l], i + 1) (wpQ_way (q44_l0a _ _ _ (lits (onceK LitR.c [] c.ls)) us.isEmpty (rws us) _ (lits (onceK LitR.c [] c.cs)) c.tz (rws c.ts) c.te _ i _) ?_) ⟨by dsimp only; omega, by simp; omega⟩ (by dsimp only; omega) ?_
          · have k1 : us.length + 1 ≤ 9223372036854775807 := by omega
            have k2 : (us.length + 1) * 24 ≤ 140737488355328 := by omega
            simp [-Bool.exists_bool, -getElem?_pos, -Int.natCast_add, hi', rws_at hl1, hc, wr1 hi (by omega), rws_len, k1, k2, rws_append, rws_cons, rws_nil]
          · dsimp only; rw [hd, onceK, if_neg hm]
      · have e1 : i = c.ts.length := by omega
        subst e1
        refine .stop (.exit 0 [(2, b0), (3, bO (onceK LitR.c [] c.ls) us (onceK LitR.c [] c.cs)), (16, iR c.tz c.ts c.te), (17, iI c.ts.length), (18, iI c.ts.length)]) (wpQ_way (q44_l0a _ _ _ (lits (onceK LitR.c [] c.ls)) us.isEmpty (rws us) _ (lits (onceK LitR.c [] c.cs)) c.tz (rws c.ts) c.te _ _ _) (by simp)) rfl ?_
        simp [blkO, onceK]) x hx
  have h4 : evP F (Go.Ab.W F) (JW F d44 []) d44 [] [1,1,0,1] [(2, b0), (3, bO (onceK LitR.c [] c.ls) [] (onceK LitR.c [] c.cs)), (16, iR c.tz c.ts c.te), (17, iI c.ts.length), (18, iI 0)] = _ := h3 ([], 0) ⟨Nat.zero_le _, Nat.le_refl _⟩
  rw [List.drop_zero] at h4
  have h5 := w_each (c := onceC' c) (clRow_once h) (s := []) ⟨List.nodup_nil, by simp⟩
  refine ⟨_, _, _, h1, _, _, _, h2, ?_⟩
  rw [rws_len]
  refine ⟨_, _, _, _, _, _, _, _, _, _, _, h4, ?_⟩
  exact ⟨_, _, _, _, _, _, _, _, _, h5, rfl⟩
/-! ### The same -/
theorem map_eq_at {α β : Type} (f : α → β) {a b : List α} (hl : a.length = b.length) (h : ∀ (i : Nat) (x y : α), a[i]? = some x → b[i]? = some y → f x = f y) : a.map f = b.map f := by
  refine List.ext_getElem (by simpa using hl) (fun i h1 h2 => ?_)
  simp at h1 h2
  simp only [List.getElem_map]
  exact h i _ _ (by simp [h1]) (by simp [h2])
theorem w_eqlits {a : List LitR} (hn : a.length ≤ 1000) (ha : ∀ l ∈ a, Len l.r.l) (b : List LitR) (z z' : Bool) (e e' : List D) : C 72 [iL z a e, iL z' b e', .d (.fn 73)] = some (iB (decide (a.map LitR.c = b.map LitR.c)), [iL z a e, iL z' b e', .d (.fn 73)]) := by
  refine wfn (lk := []) rfl rfl (fnW_way (q72 _ _ z (lits a) e z' (lits b) e' _) ?_)
  by_cases hl : a.length = b.length
  rotate_left
  · have h1 : ¬ a.map LitR.c = b.map LitR.c := fun h => hl (by simpa using congrArg List.length h)
    have h2 : ¬ (a.length : Int) = b.length := by omega
    rw [decide_eq_false h1]
    simp [-Bool.exists_bool, lits_len, h2]
  have h2 := blk_all (F := F) (d := d72) (lk := []) (p := [1,1,0,1,0,0]) (p0 := [1,1,0,1]) (by kernel_rfl) (n := a.length) (id := 0) (st := fun i => [(1, iL z' b e'), (2, .d (.fn 73)), (15, iL z a e), (16, iI a.length), (17, iI i)]) (q := fun i => match a[i]?, b[i]? with | some x, some y => decide (x.c = y.c) | _, _ => true) (rt := [(2, .d (.fn 73)), (6, iB false)]) (e := [(1, iL z' b e'), (2, .d (.fn 73)), (15, iL z a e), (16, iI a.length), (17, iI a.length)])
    (fun i hi hq => by
      obtain ⟨x, hx⟩ := at_lt hi
      obtain ⟨y, hy⟩ := at_lt (l := b) (i := i) (by omega)
      rw [hx, hy] at hq
      have hc := w_litsame (b := x.neg) (b' := y.neg) (z := x.r.z) (z' := y.r.z) (a' := y.r.l) (e := x.r.e) (e' := y.r.e) (ha x (List.mem_of_getElem? hx))
      have hq' : decide ((x.neg, x.r.l) = (y.neg, y.r.l)) = true := hq
      rw [hq'] at hc
      have hi' : (i : Int) < a.length := by omega
      refine wpQ_way (q72_l0a _ _ z' (lits b) e' z (lits a) e _ i _) ?_
      simp [-Bool.exists_bool, -getElem?_pos, -Int.natCast_add, hi', lits_at hx, lits_at hy, hc, wr1 hi (by omega)])
    (fun i hi hq => by
      obtain ⟨x, hx⟩ := at_lt hi
      obtain ⟨y, hy⟩ := at_lt (l := b) (i := i) (by omega)
      rw [hx, hy] at hq
      have hc := w_litsame (b := x.neg) (b' := y.neg) (z := x.r.z) (z' := y.r.z) (a' := y.r.l) (e := x.r.e) (e' := y.r.e) (ha x (List.mem_of_getElem? hx))
      have hq' : decide ((x.neg, x.r.l) = (y.neg, y.r.l)) = false := hq
      rw [hq'] at hc
      have hi' : (i : Int) < a.length := by omega
      refine wpQ_way (q72_l0a _ _ z' (lits b) e' z (lits a) e _ i _) ?_
      simp [-Bool.exists_bool, -getElem?_pos, -Int.natCast_add, hi', lits_at hx, lits_at hy, hc, wr1 hi (by omega)])
    (wpQ_way (q72_l0a _ _ z' (lits b) e' z (lits a) e _ a.length _) (by simp)) 0 (Nat.zero_le _)
  have hb : ¬ ((a.length : Int) != b.length) = true := by simp; omega
  rw [lits_len, lits_len]
  refine condW_f (by simpa using hb) ?_
  rcases h2 with ⟨h3, h4⟩ | ⟨⟨j, _, hj, hq⟩, h4⟩
  · have : a.map LitR.c = b.map LitR.c := map_eq_at LitR.c hl (fun i x y hx hy => by
      have := h3 i (Nat.zero_le _) (lt_at hx)
      rw [hx, hy] at this
      simpa using this)
    rw [decide_eq_true this]
    exact .inr ⟨_, _, _, _, _, _, _, _, h4, rfl⟩
  · have : ¬ a.map LitR.c = b.map LitR.c := fun h => by
      obtain ⟨x, hx⟩ := at_lt hj
      obtain ⟨y, hy⟩ := at_lt (l := b) (i := j) (by omega)
      rw [hx, hy] at hq
      have h5 : (a.map LitR.c)[j]? = (b.map LitR.c)[j]? := by rw [h]
      simp [hx, hy] at h5
      simp [h5] at hq
    rw [decide_eq_false this]
    exact .inl ⟨_, h4, rfl⟩
theorem w_eqrows {a : List Row} (hn : a.length ≤ 1000) (ha : ∀ r ∈ a, Len r.l) (b : List Row) (z z' : Bool) (e e' : List D) : C 74 [iR z a e, iR z' b e', .d (.fn 41)] = some (iB (decide (a.map (fun r : Row => r.l) = b.map (fun r : Row => r.l))), [iR z a e, iR z' b e', .d (.fn 41)]) := by
  refine wfn (lk := []) rfl rfl (fnW_way (q74 _ _ z (rws a) e z' (rws b) e' _) ?_)
  by_cases hl : a.length = b.length
  rotate_left
  · have h1 : ¬ a.map (fun r : Row => r.l) = b.map (fun r : Row => r.l) := fun h => hl (by simpa using congrArg List.length h)
    have h2 : ¬ (a.length : Int) = b.length := by omega
    rw [decide_eq_false h1]
    simp [-Bool.exists_bool, rws_len, h2]
  have h2 := blk_all (F := F) (d := d74) (lk := []) (p := [1,1,0,1,0,0]) (p0 := [1,1,0,1]) (by kernel_rfl) (n := a.length) (id := 0) (st := fun i => [(1, iR z' b e'), (2, .d (.fn 41)), (15, iR z a e), (16, iI a.length), (17, iI i)]) (q := fun i => match a[i]?, b[i]? with | some x, some y => decide (x.l = y.l) | _, _ => true) (rt := [(2, .d (.fn 41)), (6, iB false)]) (e := [(1, iR z' b e'), (2, .d (.fn 41)), (15, iR z a e), (16, iI a.length), (17, iI a.length)])
    (fun i hi hq => by
      obtain ⟨x, hx⟩ := at_lt hi
      obtain ⟨y, hy⟩ := at_lt (l := b) (i := i) (by omega)
      rw [hx, hy] at hq
      have hc := w_equal (ha x (List.mem_of_getElem? hx)) y.l x.z y.z x.e y.e
      dsimp only at hq
      rw [hq] at hc
      have hi' : (i : Int) < a.length := by omega
      refine wpQ_way (q74_l0a _ _ z' (rws b) e' z (rws a) e _ i _) ?_
      simp [-Bool.exists_bool, -getElem?_pos, -Int.natCast_add, hi', rws_at hx, rws_at hy, hc, wr1 hi (by omega)])
    (fun i hi hq => by
      obtain ⟨x, hx⟩ := at_lt hi
      obtain ⟨y, hy⟩ := at_lt (l := b) (i := i) (by omega)
      rw [hx, hy] at hq
      have hc := w_equal (ha x (List.mem_of_getElem? hx)) y.l x.z y.z x.e y.e
      dsimp only at hq
      rw [hq] at hc
      have hi' : (i : Int) < a.length := by omega
      refine wpQ_way (q74_l0a _ _ z' (rws b) e' z (rws a) e _ i _) ?_
      simp [-Bool.exists_bool, -getElem?_pos, -Int.natCast_add, hi', rws_at hx, rws_at hy, hc, wr1 hi (by omega)])
    (wpQ_way (q74_l0a _ _ z' (rws b) e' z (rws a) e _ a.length _) (by simp)) 0 (Nat.zero_le _)
  have hb : ¬ ((a.length : Int) != b.length) = true := by simp; omega
  rw [rws_len, rws_len]
  refine condW_f (by simpa using hb) ?_
  rcases h2 with ⟨h3, h4⟩ | ⟨⟨j, _, hj, hq⟩, h4⟩
  · have : a.map (fun r : Row => r.l) = b.map (fun r : Row => r.l) := map_eq_at (fun r : Row => r.l) hl (fun i x y hx hy => by
      have := h3 i (Nat.zero_le _) (lt_at hx)
      rw [hx, hy] at this
      simpa using this)
    rw [decide_eq_true this]
    exact .inr ⟨_, _, _, _, _, _, _, _, h4, rfl⟩
  · have : ¬ a.map (fun r : Row => r.l) = b.map (fun r : Row => r.l) := fun h => by
      obtain ⟨x, hx⟩ := at_lt hj
      obtain ⟨y, hy⟩ := at_lt (l := b) (i := j) (by omega)
      rw [hx, hy] at hq
      have h5 : (a.map (fun r : Row => r.l))[j]? = (b.map (fun r : Row => r.l))[j]? := by rw [h]
      simp [hx, hy] at h5
      simp [h5] at hq
    rw [decide_eq_false this]
    exact .inl ⟨_, h4, rfl⟩
structure ClLen (c : Cl) : Prop where
  l5 : c.ls.length ≤ 1000
  t3 : c.ts.length ≤ 1000
  c3 : c.cs.length ≤ 1000
  ls : ∀ l ∈ c.ls, Len l.r.l
  ts : ∀ r ∈ c.ts, Len r.l
  cs : ∀ l ∈ c.cs, Len l.r.l
theorem cl_ext {c d : Cl} : c.c = d.c ↔ c.ls.map LitR.c = d.ls.map LitR.c ∧ c.ts.map (fun r : Row => r.l) = d.ts.map (fun r : Row => r.l) ∧ c.cs.map LitR.c = d.cs.map LitR.c := by
  simp [Cl.c]
theorem w_clsame {c : Cl} (h : ClLen c) (d : Cl) : C 43 [iC c, iC d] = some (iB (decide (c.c = d.c)), [iC c, iC d]) := by
  refine wfn (lk := []) rfl rfl (fnW_way (q43 _ _ c.lz (lits c.ls) c.le c.tz (rws c.ts) c.te c.cz (lits c.cs) c.ce d.lz (lits d.ls) d.le d.tz (rws d.ts) d.te d.cz (lits d.cs) d.ce _) ?_)
  have h1 := w_eqlits h.l5 h.ls d.ls c.lz d.lz c.le d.le
  have h2 := w_eqrows h.t3 h.ts d.ts c.tz d.tz c.te d.te
  have h3 := w_eqlits h.c3 h.cs d.cs c.cz d.cz c.ce d.ce
  have h0 : decide (c.c = d.c) = (decide (c.ls.map LitR.c = d.ls.map LitR.c) && (decide (c.ts.map (fun r : Row => r.l) = d.ts.map (fun r : Row => r.l)) && decide (c.cs.map LitR.c = d.cs.map LitR.c))) := by
    rw [Bool.eq_iff_iff]; simp [cl_ext]
  rw [h0]
  cases k1 : decide (c.ls.map LitR.c = d.ls.map LitR.c) <;> cases k2 : decide (c.ts.map (fun r : Row => r.l) = d.ts.map (fun r : Row => r.l)) <;> cases k3 : decide (c.cs.map LitR.c = d.cs.map LitR.c) <;> rw [k1] at h1 <;> rw [k2] at h2 <;> rw [k3] at h3 <;> simp [-Bool.exists_bool, h1, h2, h3]
/-! ### Of clauses that may be -/
def NilC (c : Cl) : Prop := ∀ r ∈ rowsOf c, r.z = true → r.l = []
theorem clRow_of {g : List Sym} {c : Cl} (h : clB g c = true) (hn : NilC c) : ClRow c := by
  have hk := clOk.1 ((clB_c g c).symm.trans h)
  have hc := cl_codes hk
  have hl : ∀ l ∈ c.ls, atomB g l.r.l = true := fun l hl => hk.la l.c (by simp [Cl.c]; exact ⟨l, hl, rfl⟩)
  have hcs : ∀ l ∈ c.cs, atomB g l.r.l = true := fun l hl => hk.ca l.c (by simp [Cl.c]; exact ⟨l, hl, rfl⟩)
  have ht : ∀ r ∈ c.ts, rowB g r.l = true := fun r hr => by
    obtain ⟨k, hk⟩ := hk.tr
    exact (hk r.l (by simp [Cl.c]; exact ⟨r, hr, rfl⟩)).1
  have e1 : c.c.ls.length = c.ls.length := by simp [Cl.c]
  have e2 : c.c.ts.length = c.ts.length := by simp [Cl.c]
  have e3 : c.c.cs.length = c.cs.length := by simp [Cl.c]
  have h1 := hk.l5; have h2 := hk.t3; have h3 := hk.c3
  refine ⟨by omega, by omega, by omega, fun l hl' => ?_, fun r hr => ?_, fun l hl' => ?_⟩
  · have := atom_codes (hl l hl')
    exact ⟨by have := this.1; unfold Len; omega, hn _ (by simp [rowsOf]; exact .inl ⟨l, hl', rfl⟩), fun c hc => (this.2.1 c hc).1⟩
  · exact ⟨row_len (ht r hr), hn _ (by simp [rowsOf, hr]), fun c hc => (row_codes (ht r hr) c hc).1⟩
  · have := atom_codes (hcs l hl')
    exact ⟨by have := this.1; unfold Len; omega, hn _ (by simp [rowsOf]; exact .inr (.inr ⟨l, hl', rfl⟩)), fun c hc => (this.2.1 c hc).1⟩
theorem stepR_len : ∀ (r s : List Int), (stepR s r).length = r.length
  | [], s => rfl
  | c :: r, s => by simp [stepR, stepR_len r]
theorem eachL_sub : ∀ (ls : List LitR) (s : List Int) (x : LitR), x ∈ eachL s ls → ∃ l ∈ ls, x.r.l.length = l.r.l.length ∧ x.r.z = l.r.z
  | [], s, x, h => by simp [eachL] at h
  | l :: ls, s, x, h => by
    rw [eachL] at h
    rcases List.mem_cons.1 h with rfl | h
    · exact ⟨l, by simp, stepR_len _ _, rfl⟩
    · obtain ⟨m, hm, h1⟩ := eachL_sub ls _ x h
      exact ⟨m, by simp [hm], h1⟩
theorem eachR_sub : ∀ (ts : List Row) (s : List Int) (x : Row), x ∈ eachR s ts → ∃ l ∈ ts, x.l.length = l.l.length ∧ x.z = l.z
  | [], s, x, h => by simp [eachR] at h
  | l :: ls, s, x, h => by
    rw [eachR] at h
    rcases List.mem_cons.1 h with rfl | h
    · exact ⟨l, by simp, stepR_len _ _, rfl⟩
    · obtain ⟨m, hm, h1⟩ := eachR_sub ls _ x h
      exact ⟨m, by simp [hm], h1⟩
theorem eachL_len : ∀ (ls : List LitR) (s : List Int), (eachL s ls).length = ls.length
  | [], s => rfl
  | l :: ls, s => by simp [eachL, eachL_len ls]
theorem eachR_len : ∀ (ls : List Row) (s : List Int), (eachR s ls).length = ls.length
  | [], s => rfl
  | l :: ls, s => by simp [eachR, eachR_len ls]
theorem renum_len {c : Cl} (h : ClRow c) : ClLen (renumC c) :=
  ⟨by simpa [renumC, eachL_len] using h.l5, by simpa [renumC, eachR_len] using h.t3, by simpa [renumC, eachL_len] using h.c3,
   fun l hl => by obtain ⟨m, hm, h1, _⟩ := eachL_sub _ _ l hl; have := (h.ls m hm).len; unfold Len at *; omega,
   fun l hl => by obtain ⟨m, hm, h1, _⟩ := eachR_sub _ _ l hl; have := (h.ts m hm).len; unfold Len at *; omega,
   fun l hl => by obtain ⟨m, hm, h1, _⟩ := eachL_sub _ _ l hl; have := (h.cs m hm).len; unfold Len at *; omega⟩
theorem anew_ok {g : List Sym} {c : Cl} (h : clB g c = true) : clB g (anewC c) = true := by
  rw [clB_c, anew_c]
  exact clOk.2 (norm_ok (clOk.1 ((clB_c g c).symm.trans h)))
theorem w_normal (z : Bool) (g : List Sym) (e : List D) {c : Cl} (hn : NilC c) : C 24 [iG z g e, iC c] = some (if clB g c = true then .tup [oC (anewC c), iI 0] else .tup [.d (.agg [.sl 2 true [] [], .sl 1 true [] [], .sl 2 true [] []]), iI 800], [iG z g e, iC c]) := by
  refine wfn (lk := []) rfl rfl (fnW_way (q24 _ _ z (syms g) e c.lz (lits c.ls) c.le c.tz (rws c.ts) c.te c.cz (lits c.cs) c.ce _) ?_)
  have h1 := w_clmay z g e c
  refine ⟨_, _, _, h1, ?_⟩
  cases h : clB g c
  · rfl
  · have h2 := w_anew (clRow_of h hn)
    rw [condW_tt]
    exact ⟨_, _, _, _, _, _, _, h2, rfl⟩
theorem w_variant (z : Bool) (g : List Sym) (e : List D) {c d : Cl} (hn : NilC c) (hm : NilC d) : C 16 [iG z g e, iC c, iC d] = some (.tup [iB ((clB g c && clB g d) && decide (normC c.c = normC d.c)), iI (if (clB g c && clB g d) = true then 0 else 800)], [iG z g e, iC c, iC d]) := by
  refine wfn (lk := []) rfl rfl (fnW_way (q16 _ _ z (syms g) e c.lz (lits c.ls) c.le c.tz (rws c.ts) c.te c.cz (lits c.cs) c.ce d.lz (lits d.ls) d.le d.tz (rws d.ts) d.te d.cz (lits d.cs) d.ce _) ?_)
  refine ⟨_, _, _, w_clmay z g e c, ?_⟩
  cases h : clB g c
  · rfl
  rw [condW_tt]
  refine ⟨_, _, _, w_clmay z g e d, ?_⟩
  cases h' : clB g d
  · rfl
  rw [condW_tt]
  have hs := w_clsame (renum_len (clRow_once (clRow_of h hn))) (anewC d)
  rw [show renumC (onceC' c) = anewC c from rfl, anew_c, anew_c] at hs
  refine ⟨_, _, _, _, _, _, _, w_anew (clRow_of h hn), _, _, _, _, _, _, _, w_anew (clRow_of h' hm), _, _, _, hs, ?_⟩
  cases k : decide (normC c.c = normC d.c) <;> rfl
end Go.Proofs.YtjhganbjbiihoaaDoor.Ab

/- The variables of rows, added to those of others, as the program's functions tell them. For every input; no condition. -/
set_option linter.unusedVariables false
set_option linter.unusedSimpArgs false
set_option maxRecDepth 100000
namespace Go.Proofs.YtjhganbjbiihoaaDoor.Ab
open Go Go.Ab Go.Qu Go.Proofs
attribute [local simp] and_assoc
theorem w_seen2 {us r : List Int} (hu : Up us) (hl : us.length ≤ 100000) (hr : r.length ≤ 100000) (hc : ∀ c ∈ r, -1000000 ≤ c) (z : Bool) (e : List D) : C 36 [.own us.isEmpty 3 1 (ints us), iS z r e] = some (.own (seenF us r).isEmpty 3 1 (ints (seenF us r)), [.dead, iS z r e]) := by
  refine wfn (lk := []) rfl rfl (fnW_way (q36 _ _ us.isEmpty (ints us) z (ints r) e _) ?_)
  have h1 := fun x hx => blk_fun (F := F) (d := d36) (lk := []) (p := [1,0,1,0,0]) (p0 := [1,0,1]) (id := 0) (by kernel_rfl) (st := fun (x : List Int × Nat) => [(0, .own x.1.isEmpty 3 1 (ints x.1)), (9, iS z r e), (10, iI r.length), (11, iI x.2)]) (I := fun x => x.2 ≤ r.length ∧ Up x.1 ∧ x.1.length ≤ us.length + x.2) (μ := fun x => r.length - x.2)
    (res := fun x => .norm [(0, .own (seenF x.1 (r.drop x.2)).isEmpty 3 1 (ints (seenF x.1 (r.drop x.2)))), (9, iS z r e), (10, iI r.length), (11, iI r.length)])
    (fun x hx => by
      obtain ⟨vs, i⟩ := x
      obtain ⟨hx1, hx2, hx3⟩ := hx
      dsimp only at hx1 hx2 hx3
      by_cases hi : i < r.length
      · have hci := hc _ (gi_mem hi)
        have hi' : (i : Int) < r.length := by omega
        by_cases h0 : 0 ≤ gi r i
        · have h0n : ¬ gi r i < 0 := by omega
          refine .go (vs, i + 1) (wpQ_way (q36_l0a _ _ _ (ints vs) z (ints r) e _ i _) ?_) ⟨by dsimp only; omega, hx2, by dsimp only; omega⟩ (by dsimp only; omega) ?_
          · simp [-Bool.exists_bool, -getElem?_pos, -Int.natCast_add, hi', Go.Ab.ints_at hi, h0, h0n, wr1 hi (by omega)]
          · dsimp only
            rw [gi_drop hi, seenF, if_neg (by omega)]
        · have hw : IntKind.wrap .i64 (-1 - gi r i) = -1 - gi r i := wr _ (by omega) (by omega)
          have hn := w_number (gi r i)
          rw [hw] at hn
          have hb := w_binsearch hx2 (by omega) vs.isEmpty [] (-1 - gi r i)
          by_cases hm : (-1 - gi r i) ∈ vs
          · refine .go (vs, i + 1) (wpQ_way (q36_l0a _ _ _ (ints vs) z (ints r) e _ i _) ?_) ⟨by dsimp only; omega, hx2, by dsimp only; omega⟩ (by dsimp only; omega) ?_
            · simp [-Bool.exists_bool, -getElem?_pos, -Int.natCast_add, hi', Go.Ab.ints_at hi, h0, hn, hb, hm, wr1 hi (by omega)]
            · dsimp only
              rw [gi_drop hi, seenF, if_pos (by omega), insS, if_pos hm]
          · have hlow := low_le (vs := vs) (v := -1 - gi r i)
            have hl' : (lowS vs (-1 - gi r i) : Int) ≤ vs.length := by omega
            have hil : insS vs (-1 - gi r i) = vs.take (lowS vs (-1 - gi r i)) ++ (-1 - gi r i) :: vs.drop (lowS vs (-1 - gi r i)) := by rw [insS, if_neg hm]
            refine .go (insS vs (-1 - gi r i), i + 1) (wpQ_way (q36_l0a _ _ _ (ints vs) z (ints r) e _ i _) ?_) ⟨by dsimp only; omega, up_ins hx2, by have := ins_len (vs := vs) (v := -1 - gi r i); dsimp only; omega⟩ (by dsimp only; omega) ?_
            · have hbig : (vs.length + 1) * 8 ≤ 140737488355328 := by omega
              have hin : ints (insS vs (-1 - gi r i)) = (ints vs).take (lowS vs (-1 - gi r i)) ++ .int .i64 (-1 - gi r i) :: (ints vs).drop (lowS vs (-1 - gi r i)) := by
                rw [hil]; simp [ints]
              have hne : (insS vs (-1 - gi r i)).isEmpty = false := by rw [hil]; simp
              dsimp only
              rw [hne, hin]
              simp [-Bool.exists_bool, -getElem?_pos, -Int.natCast_add, hi', Go.Ab.ints_at hi, h0, hn, hb, hm, wr1 hi (by omega), ints_len, hl', hbig, hlow]
            · dsimp only
              rw [gi_drop hi, seenF, if_pos (by omega)]
      · have e1 : i = r.length := by omega
        subst e1
        refine .stop (.exit 0 [(0, .own vs.isEmpty 3 1 (ints vs)), (9, iS z r e), (10, iI r.length), (11, iI r.length)]) (wpQ_way (q36_l0a _ _ _ (ints vs) z (ints r) e _ _ _) (by simp)) rfl ?_
        simp [blkO, seenF]) x hx
  have h2 : evP F (Go.Ab.W F) (JW F d36 []) d36 [] [1,0,1] [(0, .own us.isEmpty 3 1 (ints us)), (9, iS z r e), (10, iI r.length), (11, iI 0)] = _ := h1 (us, 0) ⟨Nat.zero_le _, hu, Nat.le_refl _⟩
  rw [List.drop_zero] at h2
  simp [-Bool.exists_bool, ints_len, h2]
end Go.Proofs.YtjhganbjbiihoaaDoor.Ab

/- slices.Grow of this seat's translation is the one of the library's contract. No condition. -/
set_option linter.unusedVariables false
set_option maxRecDepth 100000
namespace Go.Proofs.YtjhganbjbiihoaaDoor.Ab
open Go Go.Ab Go.Proofs
def growRen : Go.Shelf.Ren := ⟨fun | 4 => 63 | n => n, fun | 0 => 0 | 3 => 3 | 4 => 4 | 9 => 9 | 20 => 20 | 22 => 23 | 25 => 57 | n => n, fun | n => n⟩
theorem growLays : Go.Proofs.Lays8.n4 Tryd.prog growRen := {
  mixed := by kernel_rfl
  f4 := ⟨Tryd.f63.name, by kernel_rfl, Tryd.func63.trans (congrArg some (by kernel_rfl))⟩
  t0 := Tryd.underlying0
  a0 := Tryd.isAgg0
  z0 := Tryd.sizeOf0
  v0 := Tryd.zeroValue0
  t3 := Tryd.underlying3
  a3 := Tryd.isAgg3
  z3 := Tryd.sizeOf3
  v3 := Tryd.zeroValue3
  t4 := Tryd.underlying4
  a4 := Tryd.isAgg4
  z4 := Tryd.sizeOf4
  v4 := Tryd.zeroValue4
  t9 := Tryd.underlying9
  a9 := Tryd.isAgg9
  z9 := Tryd.sizeOf9
  v9 := Tryd.zeroValue9
  t20 := Tryd.underlying20
  a20 := Tryd.isAgg20
  z20 := Tryd.sizeOf20
  v20 := Tryd.zeroValue20
  t22 := Tryd.underlying23
  a22 := Tryd.isAgg23
  z22 := Tryd.sizeOf23
  v22 := Tryd.zeroValue23 }
theorem growChk : (match Tryd.prog.info? 57 with | some i => (match i.zero with | some z => Nat.beq i.size 2 && (Nat.ble i.bytes 1000 && Nat.beq z.cells.size 2) | none => false) | none => false) = true := by kernel_rfl
theorem growInfo : ∃ i0 z, Tryd.prog.info? 57 = some i0 ∧ i0.zero = some z ∧ i0.size = 2 ∧ i0.bytes ≤ 1000 ∧ z.cells.size = 2 := by
  have h := growChk
  split at h
  · rename_i i hi
    split at h
    · rename_i z hz
      simp only [Bool.and_eq_true] at h
      exact ⟨i, z, hi, hz, Nat.eq_of_beq_eq_true h.1, Nat.le_of_ble_eq_true h.2.1, Nat.eq_of_beq_eq_true h.2.2⟩
    · cases h
  · cases h
theorem growFn : FnOk Tryd.prog 63 := ⟨_, Tryd.func63, by kernel_rfl, by kernel_rfl⟩
theorem primOk (f : FuncId) (p : List IV → Option (IV × List IV)) (args : List IV) (r : IV) (outs : List IV) (h : F.prim f = some p) (h2 : p args = some (r, outs)) : FnOk Tryd.prog f ∧ CallSpec Tryd.prog F.G f args r outs := by
  have h3 : (match (generalizing := false) f with | 63 => some (growP 57 2) | _ => none) = some p := h
  split at h3
  · simp only [Option.some.injEq] at h3
    subst h3
    obtain ⟨i0, z, k1, k2, k3, k4, k5⟩ := growInfo
    exact ⟨growFn, grow_spec growLays (sz := 2) k1 k2 k3 (by omega) k5 k4 h2⟩
  · cases h3
end Go.Proofs.YtjhganbjbiihoaaDoor.Ab

/- What clauses weigh, their variables: what the program's functions hand back. For every input; no condition. -/
set_option linter.unusedVariables false
set_option linter.unusedSimpArgs false
set_option maxRecDepth 100000
namespace Go.Proofs.YtjhganbjbiihoaaDoor.Ab
open Go Go.Ab Go.Qu Go.Proofs
attribute [local simp] and_assoc
theorem w_grow (n : Nat) (hn : n ≤ 1000000) : C 63 [.d (.sl 2 true [] []), iI n] = some (.own (decide ((n : Int) = 0)) 57 2 [], [.d (.sl 2 true [] []), iI n]) := by
  refine W_prim (p := growP 57 2) rfl ?_
  unfold growP
  dsimp only
  rw [if_pos ⟨by omega, by omega⟩]
theorem lits_empty (a : List LitR) : (lits a).isEmpty = a.isEmpty := by cases a <;> rfl
theorem w_concat {a b : List LitR} (ha : a.length ≤ 1000) (hb : b.length ≤ 1000) (z z' : Bool) (e e' : List D) : C 35 [.d (.sl 1 false [.sl 2 z (lits a) e, .sl 2 z' (lits b) e'] [])] = some (.own (decide (((a.length + b.length : Nat) : Int) = 0)) 57 2 (lits (a ++ b)), [.d (.sl 1 false [.sl 2 z (lits a) e, .sl 2 z' (lits b) e'] [])]) := by
  refine wfn (lk := []) rfl rfl (fnW_way (q35 _ _ false [.sl 2 z (lits a) e, .sl 2 z' (lits b) e'] [] _) ?_)
  have h1 := blk_fun (F := F) (d := d35) (lk := []) (p := [1,1,0,1,0,0]) (p0 := [1,1,0,1]) (id := 0) (by kernel_rfl) (st := fun (i : Nat) => [(0, .d (.sl 1 false [.sl 2 z (lits a) e, .sl 2 z' (lits b) e'] [])), (3, iI (if i = 0 then 0 else if i = 1 then (a.length : Int) else ((a.length + b.length : Nat) : Int))), (9, .d (.sl 1 false [.sl 2 z (lits a) e, .sl 2 z' (lits b) e'] [])), (10, iI 2), (11, iI i)]) (I := fun i => i ≤ 2) (μ := fun i => 2 - i)
    (res := fun _ => .norm [(0, .d (.sl 1 false [.sl 2 z (lits a) e, .sl 2 z' (lits b) e'] [])), (3, iI ((a.length + b.length : Nat) : Int)), (9, .d (.sl 1 false [.sl 2 z (lits a) e, .sl 2 z' (lits b) e'] [])), (10, iI 2), (11, iI 2)])
    (fun i hi => by
      have hw1 : IntKind.wrap .i64 (0 + (a.length : Int)) = (a.length : Int) := by rw [wr _ (by omega) (by omega)]; omega
      have hw2 : IntKind.wrap .i64 ((a.length : Int) + (b.length : Int)) = ((a.length + b.length : Nat) : Int) := by rw [wr _ (by omega) (by omega)]; omega
      have hn1 : ¬ (a.length : Int) < 0 := by omega
      have hn2 : ¬ ((a.length + b.length : Nat) : Int) < 0 := by omega
      have hw3 : IntKind.wrap .i64 (0 + 1) = 1 := by rw [wr _ (by omega) (by omega)]; omega
      have hw4 : IntKind.wrap .i64 (1 + 1) = 2 := by rw [wr _ (by omega) (by omega)]; omega
      have h3 : i = 0 ∨ i = 1 ∨ i = 2 := by omega
      rcases h3 with rfl | rfl | rfl
      · refine .go 1 (wpQ_way (q35_l0a _ _ false [.sl 2 z (lits a) e, .sl 2 z' (lits b) e'] [] 0 false [.sl 2 z (lits a) e, .sl 2 z' (lits b) e'] [] 2 0 _) ?_) (by omega) (by omega) rfl
        refine condW_t (by decide) (condW_t (by decide) ⟨_, _, _, rfl, ?_⟩)
        rw [lits_len, hw1]
        exact condW_f (decide_eq_false hn1) (by rw [hw3]; rfl)
      · refine .go 2 (wpQ_way (q35_l0a _ _ false [.sl 2 z (lits a) e, .sl 2 z' (lits b) e'] [] a.length false [.sl 2 z (lits a) e, .sl 2 z' (lits b) e'] [] 2 1 _) ?_) (by omega) (by omega) rfl
        refine condW_t (by decide) (condW_t (by decide) ⟨_, _, _, rfl, ?_⟩)
        rw [lits_len, hw2]
        exact condW_f (decide_eq_false hn2) (by rw [hw4]; rfl)
      · exact .stop (.exit 0 [(0, .d (.sl 1 false [.sl 2 z (lits a) e, .sl 2 z' (lits b) e'] [])), (3, iI ((a.length + b.length : Nat) : Int)), (9, .d (.sl 1 false [.sl 2 z (lits a) e, .sl 2 z' (lits b) e'] [])), (10, iI 2), (11, iI 2)]) (wpQ_way (q35_l0a _ _ false [.sl 2 z (lits a) e, .sl 2 z' (lits b) e'] [] _ false [.sl 2 z (lits a) e, .sl 2 z' (lits b) e'] [] 2 2 _) (condW_f (by decide) rfl)) rfl rfl) 0 (Nat.zero_le _)
  have hg := w_grow (a.length + b.length) (by omega)
  generalize hzf : decide (((a.length + b.length : Nat) : Int) = 0) = zf at hg ⊢
  have hza : (zf && (lits a).isEmpty) = zf := by
    rw [← hzf, lits_empty]
    by_cases h0 : a.length + b.length = 0
    · have : a = [] := List.length_eq_zero_iff.1 (by omega)
      subst this; simp
    · have : ¬ ((a.length + b.length : Nat) : Int) = 0 := by omega
      rw [decide_eq_false this]; rfl
  have hzb : (zf && (lits b).isEmpty) = zf := by
    rw [← hzf, lits_empty]
    by_cases h0 : a.length + b.length = 0
    · have : b = [] := List.length_eq_zero_iff.1 (by omega)
      subst this; simp
    · have : ¬ ((a.length + b.length : Nat) : Int) = 0 := by omega
      rw [decide_eq_false this]; rfl
  have h2 := blk_fun (F := F) (d := d35) (lk := []) (p := [1,1,1,1,0,1,0,0]) (p0 := [1,1,1,1,0,1]) (id := 2) (by kernel_rfl) (st := fun (i : Nat) => [(6, .own zf 57 2 (lits (if i = 0 then [] else if i = 1 then a else a ++ b))), (25, .d (.sl 1 false [.sl 2 z (lits a) e, .sl 2 z' (lits b) e'] [])), (26, iI 2), (27, iI i)]) (I := fun i => i ≤ 2) (μ := fun i => 2 - i)
    (res := fun _ => .norm [(6, .own zf 57 2 (lits (a ++ b))), (25, .d (.sl 1 false [.sl 2 z (lits a) e, .sl 2 z' (lits b) e'] [])), (26, iI 2), (27, iI 2)])
    (fun i hi => by
      have hw3 : IntKind.wrap .i64 (0 + 1) = 1 := by rw [wr _ (by omega) (by omega)]; omega
      have hw4 : IntKind.wrap .i64 (1 + 1) = 2 := by rw [wr _ (by omega) (by omega)]; omega
      have h3 : i = 0 ∨ i = 1 ∨ i = 2 := by omega
      rcases h3 with rfl | rfl | rfl
      · refine .go 1 (wpQ_way (q35_l2a _ _ zf (lits []) false [.sl 2 z (lits a) e, .sl 2 z' (lits b) e'] [] 2 0 _) ?_) (by omega) (by omega) rfl
        refine condW_t (by decide) (condW_t (by decide) ⟨_, _, _, rfl, condW_t (by simp [lits_len, lits_nil]; omega) (condW_t (by simp [lits_len, lits_nil]; omega) ?_)⟩)
        rw [hza, hw3]; rfl
      · refine .go 2 (wpQ_way (q35_l2a _ _ zf (lits a) false [.sl 2 z (lits a) e, .sl 2 z' (lits b) e'] [] 2 1 _) ?_) (by omega) (by omega) rfl
        refine condW_t (by decide) (condW_t (by decide) ⟨_, _, _, rfl, condW_t (by simp [lits_len]; omega) (condW_t (by simp [lits_len]; omega) ?_)⟩)
        rw [hzb, hw4, ← lits_append]; rfl
      · exact .stop (.exit 2 [(6, .own zf 57 2 (lits (a ++ b))), (25, .d (.sl 1 false [.sl 2 z (lits a) e, .sl 2 z' (lits b) e'] [])), (26, iI 2), (27, iI 2)]) (wpQ_way (q35_l2a _ _ zf (lits (a ++ b)) false [.sl 2 z (lits a) e, .sl 2 z' (lits b) e'] [] 2 2 _) (condW_f (by decide) rfl)) rfl rfl) 0 (Nat.zero_le _)
  exact ⟨_, _, _, _, _, _, _, _, _, h1, _, _, _, _, hg, _, _, _, _, _, _, _, h2, rfl⟩
theorem seen_len : ∀ (r vs : List Int), (seenF vs r).length ≤ vs.length + r.length
  | [], vs => by simp [seenF]
  | c :: r, vs => by
    rw [seenF]
    have := seen_len r (if c < 0 then insS vs (-1 - c) else vs)
    have h2 : (if c < 0 then insS vs (-1 - c) else vs).length ≤ vs.length + 1 := by
      split
      · exact ins_len
      · omega
    simp; omega
abbrev fold (us : List Int) (rs : List (List Int)) : List Int := rs.foldl seenF us
theorem w_clvars (z : Bool) (g : List Sym) (e : List D) {c : Cl} (hn : NilC c) : C 12 [iG z g e, iC c] = some (.tup [.own (if clB g c = true then varsC c.c.rows else []).isEmpty 3 1 (ints (if clB g c = true then varsC c.c.rows else [])), iI (if clB g c = true then 0 else 800)], [iG z g e, iC c]) := by
  refine wfn (lk := []) rfl rfl (fnW_way (q12 _ _ z (syms g) e c.lz (lits c.ls) c.le c.tz (rws c.ts) c.te c.cz (lits c.cs) c.ce _) ?_)
  refine ⟨_, _, _, w_clmay z g e c, ?_⟩
  cases hb : clB g c
  · rfl
  rw [condW_tt]
  have hr := clRow_of hb hn
  have hk := clOk.1 ((clB_c g c).symm.trans hb)
  have e1 : c.ls.length ≤ 5 := by have := hk.l5; simpa [Cl.c] using this
  have e2 : c.ts.length ≤ 3 := by have := hk.t3; simpa [Cl.c] using this
  have e3 : c.cs.length ≤ 3 := by have := hk.c3; simpa [Cl.c] using this
  have h49 : ∀ r ∈ rowsOf c, r.l.length ≤ 49 ∧ ∀ x ∈ r.l, -24 ≤ x := fun r hr' => by
    simp only [rowsOf, List.mem_append, List.mem_map] at hr'
    rcases hr' with (⟨l, hl, rfl⟩ | hr') | ⟨l, hl, rfl⟩
    · have := atom_codes (hk.la l.c (by simp [Cl.c]; exact ⟨l, hl, rfl⟩))
      exact ⟨this.1, fun x hx => (this.2.1 x hx).1⟩
    · obtain ⟨k, hk⟩ := hk.tr
      have h1 := (hk r.l (by simp [Cl.c]; exact ⟨r, hr', rfl⟩)).1
      have := (rowB_parts h1).2.1
      exact ⟨by omega, fun x hx => (row_codes h1 x hx).1⟩
    · have := atom_codes (hk.ca l.c (by simp [Cl.c]; exact ⟨l, hl, rfl⟩))
      exact ⟨this.1, fun x hx => (this.2.1 x hx).1⟩
  have hcc := w_concat (a := c.ls) (b := c.cs) (by omega) (by omega) c.lz c.cz c.le c.ce
  obtain ⟨L, hL⟩ : ∃ L, L = c.ls ++ c.cs := ⟨_, rfl⟩
  rw [← hL] at hcc
  have hLn : L.length ≤ 8 := by rw [hL]; simp; omega
  have hLm : ∀ l ∈ L, l.r ∈ rowsOf c := fun l hl => by
    rw [hL, List.mem_append] at hl
    simp only [rowsOf, List.mem_append, List.mem_map]
    rcases hl with hl | hl
    · exact .inl (.inl ⟨l, hl, rfl⟩)
    · exact .inr ⟨l, hl, rfl⟩
  generalize hzf : decide (((c.ls.length + c.cs.length : Nat) : Int) = 0) = zf at hcc
  have h1 := fun x hx => blk_fun (F := F) (d := d12) (lk := []) (p := [1,1,1,0,1,0,0]) (p0 := [1,1,1,0,1]) (id := 0) (by kernel_rfl) (st := fun (x : List Int × Nat) => [(3, bC c), (6, .own x.1.isEmpty 3 1 (ints x.1)), (20, .own zf 57 2 (lits L)), (21, iI L.length), (22, iI x.2)]) (I := fun x => x.2 ≤ L.length ∧ Up x.1 ∧ x.1.length ≤ 49 * x.2) (μ := fun x => L.length - x.2)
    (res := fun x => .norm [(3, bC c), (6, .own (fold x.1 ((L.drop x.2).map fun l => l.r.l)).isEmpty 3 1 (ints (fold x.1 ((L.drop x.2).map fun l => l.r.l)))), (20, .own zf 57 2 (lits L)), (21, iI L.length), (22, iI L.length)])
    (fun x hx => by
      obtain ⟨us, i⟩ := x
      obtain ⟨hx1, hx2, hx3⟩ := hx
      dsimp only at hx1 hx2 hx3
      by_cases hi : i < L.length
      · obtain ⟨l, hl1⟩ := at_lt hi
        have hd : L.drop i = l :: L.drop (i + 1) := by
          rw [List.drop_eq_getElem_cons hi]
          rw [List.getElem?_eq_getElem hi] at hl1
          cases hl1; rfl
        have hlr := h49 l.r (hLm l (List.mem_of_getElem? hl1))
        have hs := w_seen2 hx2 (by omega) (r := l.r.l) (by omega) (fun x hx => by have := hlr.2 x hx; omega) l.r.z l.r.e
        have hlen := seen_len l.r.l us
        have hi' : (i : Int) < L.length := by omega
        refine .go (seenF us l.r.l, i + 1) (wpQ_way (q12_l0a _ _ c.lz (lits c.ls) c.le c.tz (rws c.ts) c.te c.cz (lits c.cs) c.ce us.isEmpty (ints us) zf (lits L) _ i _) ?_) ⟨by dsimp only; omega, up_seen hx2, by dsimp only; omega⟩ (by dsimp only; omega) ?_
        · simp [-Bool.exists_bool, -getElem?_pos, -Int.natCast_add, hi', lits_at hl1, hs, wr1 hi (by omega)]
        · dsimp only; rw [hd]; rfl
      · have ei : i = L.length := by omega
        subst ei
        refine .stop (.exit 0 [(3, bC c), (6, .own us.isEmpty 3 1 (ints us)), (20, .own zf 57 2 (lits L)), (21, iI L.length), (22, iI L.length)]) (wpQ_way (q12_l0a _ _ c.lz (lits c.ls) c.le c.tz (rws c.ts) c.te c.cz (lits c.cs) c.ce us.isEmpty (ints us) zf (lits L) _ _ _) (by simp)) rfl ?_
        simp [blkO, fold]) x hx
  have h2 := fun x hx => blk_fun (F := F) (d := d12) (lk := []) (p := [1,1,1,1,0,1,0,0]) (p0 := [1,1,1,1,0,1]) (id := 2) (by kernel_rfl) (st := fun (x : List Int × Nat) => [(6, .own x.1.isEmpty 3 1 (ints x.1)), (32, iR c.tz c.ts c.te), (33, iI c.ts.length), (34, iI x.2)]) (I := fun x => x.2 ≤ c.ts.length ∧ Up x.1 ∧ x.1.length ≤ 400 + 49 * x.2) (μ := fun x => c.ts.length - x.2)
    (res := fun x => .norm [(6, .own (fold x.1 ((c.ts.drop x.2).map fun r => r.l)).isEmpty 3 1 (ints (fold x.1 ((c.ts.drop x.2).map fun r => r.l)))), (32, iR c.tz c.ts c.te), (33, iI c.ts.length), (34, iI c.ts.length)])
    (fun x hx => by
      obtain ⟨us, i⟩ := x
      obtain ⟨hx1, hx2, hx3⟩ := hx
      dsimp only at hx1 hx2 hx3
      by_cases hi : i < c.ts.length
      · obtain ⟨l, hl1⟩ := at_lt hi
        have hd : c.ts.drop i = l :: c.ts.drop (i + 1) := by
          rw [List.drop_eq_getElem_cons hi]
          rw [List.getElem?_eq_getElem hi] at hl1
          cases hl1; rfl
        have hlr := h49 l (by simp [rowsOf, List.mem_of_getElem? hl1])
        have hs := w_seen2 hx2 (by omega) (r := l.l) (by omega) (fun x hx => by have := hlr.2 x hx; omega) l.z l.e
        have hlen := seen_len l.l us
        have hi' : (i : Int) < c.ts.length := by omega
        refine .go (seenF us l.l, i + 1) (wpQ_way (q12_l2a _ _ us.isEmpty (ints us) c.tz (rws c.ts) c.te _ i _) ?_) ⟨by dsimp only; omega, up_seen hx2, by dsimp only; omega⟩ (by dsimp only; omega) ?_
        · simp [-Bool.exists_bool, -getElem?_pos, -Int.natCast_add, hi', rws_at hl1, hs, wr1 hi (by omega)]
        · dsimp only; rw [hd]; rfl
      · have ei : i = c.ts.length := by omega
        subst ei
        refine .stop (.exit 2 [(6, .own us.isEmpty 3 1 (ints us)), (32, iR c.tz c.ts c.te), (33, iI c.ts.length), (34, iI c.ts.length)]) (wpQ_way (q12_l2a _ _ us.isEmpty (ints us) c.tz (rws c.ts) c.te _ _ _) (by simp)) rfl ?_
        simp [blkO, fold]) x hx
  have h3 : evP F (Go.Ab.W F) (JW F d12 []) d12 [] [1,1,1,0,1] [(3, bC c), (6, .own true 3 1 []), (20, .own zf 57 2 (lits L)), (21, iI L.length), (22, iI 0)] = _ := h1 ([], 0) ⟨Nat.zero_le _, List.Pairwise.nil, Nat.le_refl _⟩
  rw [List.drop_zero] at h3
  have hup : Up (fold [] (L.map fun l => l.r.l)) := up_folds List.Pairwise.nil
  have hfl : ∀ (rs : List (List Int)) (us : List Int), (∀ r ∈ rs, r.length ≤ 49) → (fold us rs).length ≤ us.length + 49 * rs.length := by
    intro rs
    induction rs with
    | nil => intro us _; simp [fold]
    | cons r rs ih =>
      intro us h
      have h4 := ih (seenF us r) (fun x hx => h x (by simp [hx]))
      have h5 := seen_len r us
      have h6 := h r (by simp)
      simp only [fold, List.foldl_cons, List.length_cons] at h4 ⊢
      omega
  have hfn : (fold [] (L.map fun l => l.r.l)).length ≤ 400 := by
    have := hfl (L.map fun l => l.r.l) [] (fun r hr' => by
      obtain ⟨l, hl, rfl⟩ := List.mem_map.1 hr'
      exact (h49 l.r (hLm l hl)).1)
    simp at this; omega
  have h4 := h2 (fold [] (L.map fun l => l.r.l), 0) ⟨Nat.zero_le _, hup, by dsimp only; omega⟩
  rw [List.drop_zero] at h4
  have hall : fold (fold [] (L.map fun l => l.r.l)) (c.ts.map fun r => r.l) = varsC c.c.rows := by
    have h5 : fold (fold [] (L.map fun l => l.r.l)) (c.ts.map fun r => r.l) = varsC ((L.map fun l => l.r.l) ++ (c.ts.map fun r => r.l)) := by
      unfold varsC; rw [List.foldl_append]
    rw [h5]
    refine vars_ext fun r => ?_
    rw [hL]
    simp only [CC.rows, Cl.c, List.map_append, List.map_map, List.mem_append]
    constructor
    · rintro ((h | h) | h)
      · exact .inl (.inl h)
      · exact .inr h
      · exact .inl (.inr h)
    · rintro ((h | h) | h)
      · exact .inl (.inl h)
      · exact .inr h
      · exact .inl (.inr h)
  dsimp only at h3 h4
  rw [hall] at h4
  refine ⟨_, _, _, hcc, ?_⟩
  rw [lits_len]
  refine ⟨_, _, _, _, _, _, _, _, _, _, _, _, _, _, _, h3, ?_⟩
  rw [rws_len]
  exact ⟨_, _, _, _, _, _, _, h4, rfl⟩
theorem w_clweight (z : Bool) (g : List Sym) (e : List D) (c : Cl) : C 10 [iG z g e, iC c] = some (.tup [iI (if clB g c = true then wtL g c.c.ls else 0), iI (if clB g c = true then 0 else 800)], [iG z g e, iC c]) := by
  refine wfn (lk := []) rfl rfl (fnW_way (q10 _ _ z (syms g) e c.lz (lits c.ls) c.le c.tz (rws c.ts) c.te c.cz (lits c.cs) c.ce _) ?_)
  refine ⟨_, _, _, w_clmay z g e c, ?_⟩
  cases hb : clB g c
  · rfl
  rw [condW_tt]
  have hk := clOk.1 ((clB_c g c).symm.trans hb)
  have hg := sigOk hk.sg
  have e1 : c.ls.length ≤ 5 := by have := hk.l5; simpa [Cl.c] using this
  have hla : ∀ l ∈ c.ls, atomB g l.r.l = true := fun l hl => hk.la l.c (by simp [Cl.c]; exact ⟨l, hl, rfl⟩)
  have hw980 : ∀ l ∈ c.ls, 0 ≤ sumW g l.r.l ∧ sumW g l.r.l ≤ 980 := fun l hl => by
    have h1 := sumW_le hg l.r.l (atom_known (hla l hl))
    have h2 := (atom_codes (hla l hl)).1
    omega
  have h1 := fun x hx => blk_fun (F := F) (d := d10) (lk := []) (p := [1,1,1,0,1,0,0]) (p0 := [1,1,1,0,1]) (id := 0) (by kernel_rfl) (st := fun (x : Int × Nat) => [(0, iG z g e), (6, iI x.1), (14, iL c.lz c.ls c.le), (15, iI c.ls.length), (16, iI x.2)]) (I := fun x => x.2 ≤ c.ls.length ∧ 0 ≤ x.1 ∧ x.1 ≤ 980 * x.2) (μ := fun x => c.ls.length - x.2)
    (res := fun x => .norm [(0, iG z g e), (6, iI (x.1 + wtL g ((c.ls.drop x.2).map LitR.c))), (14, iL c.lz c.ls c.le), (15, iI c.ls.length), (16, iI c.ls.length)])
    (fun x hx => by
      obtain ⟨n, i⟩ := x
      obtain ⟨hx1, hx2, hx3⟩ := hx
      dsimp only at hx1 hx2 hx3
      by_cases hi : i < c.ls.length
      · obtain ⟨l, hl1⟩ := at_lt hi
        have hd : c.ls.drop i = l :: c.ls.drop (i + 1) := by
          rw [List.drop_eq_getElem_cons hi]
          rw [List.getElem?_eq_getElem hi] at hl1
          cases hl1; rfl
        have hlm := List.mem_of_getElem? hl1
        have ha := hla l hlm
        have h9 := hw980 l hlm
        have hlen : Len l.r.l := by have := (atom_codes ha).1; unfold Len; omega
        have hs := w_sum hg hlen (atom_known ha) z l.r.z e l.r.e
        have hi' : (i : Int) < c.ls.length := by omega
        have hw : IntKind.wrap .i64 (n + sumW g l.r.l) = n + sumW g l.r.l := wr _ (by omega) (by omega)
        refine .go (n + sumW g l.r.l, i + 1) (wpQ_way (q10_l0a _ _ z (syms g) e n c.lz (lits c.ls) c.le _ i _) ?_) ⟨by dsimp only; omega, by dsimp only; omega, by dsimp only; omega⟩ (by dsimp only; omega) ?_
        · simp [-Bool.exists_bool, -getElem?_pos, -Int.natCast_add, hi', lits_at hl1, hs, wr1 hi (by omega), hw]
        · dsimp only; rw [hd, List.map_cons, wtL, Int.add_assoc]; rfl
      · have ei : i = c.ls.length := by omega
        subst ei
        refine .stop (.exit 0 [(0, iG z g e), (6, iI n), (14, iL c.lz c.ls c.le), (15, iI c.ls.length), (16, iI c.ls.length)]) (wpQ_way (q10_l0a _ _ z (syms g) e n c.lz (lits c.ls) c.le _ _ _) (by simp)) rfl ?_
        simp [blkO, wtL]) x hx
  have h2 : evP F (Go.Ab.W F) (JW F d10 []) d10 [] [1,1,1,0,1] [(0, iG z g e), (6, iI 0), (14, iL c.lz c.ls c.le), (15, iI c.ls.length), (16, iI 0)] = _ := h1 (0, 0) ⟨Nat.zero_le _, Int.le_refl _, by simp⟩
  rw [List.drop_zero, Int.zero_add] at h2
  rw [lits_len]
  exact ⟨_, _, _, _, _, _, _, _, _, h2, rfl⟩
end Go.Proofs.YtjhganbjbiihoaaDoor.Ab

/- Rows that become others: what stands for each variable, and the search for it. Plain lists; no condition. -/
set_option linter.unusedVariables false
set_option linter.unusedSimpArgs false
namespace Go.Qu
open Go Go.Ab

/-- What stands for each variable, as far as something does. -/
abbrev Bs := Nat → Option (List Int)
def Bs.upd (s : Bs) (v : Nat) (t : List Int) : Bs := fun w => if w = v then some t else s w
/-- Whatever stands in one stands in the other. -/
def Bs.le (s u : Bs) : Prop := ∀ v t, s v = some t → u v = some t
theorem Bs.le_refl (s : Bs) : s.le s := fun _ _ h => h
theorem Bs.le_trans {s u w : Bs} (h : s.le u) (h' : u.le w) : s.le w := fun v t e => h' v t (h v t e)
theorem Bs.le_upd {s : Bs} {v : Nat} (t : List Int) (h : s v = none) : s.le (s.upd v t) := fun w u e => by
  unfold Bs.upd
  split
  · rename_i h1; subst h1; rw [h] at e; cases e
  · exact e
/-! ### The search -/
/-- A part: its codes, and which ones it may become: their places, what they are. -/
structure Pt where
  codes : List Int
  cand : List (Nat × List Int)
/-! ### To say as much -/
end Go.Qu

/- What says as much as what: itself, through a third; its point is under the other one's; clauses and their normal ones. Plain lists; no condition. -/
set_option linter.unusedVariables false
set_option linter.unusedSimpArgs false
namespace Go.Qu
open Go Go.Ab

theorem arOf_var {g : List Sym} {c : Int} (h : c < 0) (h2 : -24 ≤ c) : arOf g c = some 0 := by rw [arOf, if_pos h, if_pos h2]
/-! ### Points -/
/-! ### Normal clauses -/
end Go.Qu

/- Structures of a few things: what holds in them holds of a clause just where it holds of its normal one; what says nothing holds in all. Plain lists; no condition. -/
set_option linter.unusedVariables false
set_option linter.unusedSimpArgs false
namespace Go.Qu
open Go Go.Ab

/-- The values of so many terms; `tv` tells what a symbol means. -/
def evT (g : List Sym) (tv : Int → List Int → Int) (env : Int → Int) : List Int → Nat → List Int
  | _, 0 => []
  | [], _ + 1 => []
  | c :: r, n + 1 => if c < 0 then env c :: evT g tv env r n else
    tv c ((evT g tv env r (n + (arOf g c).getD 0)).take ((arOf g c).getD 0)) :: (evT g tv env r (n + (arOf g c).getD 0)).drop ((arOf g c).getD 0)
theorem evT_len {g : List Sym} {tv : Int → List Int → Int} {env : Int → Int} : ∀ {r : List Int} {n k : Nat}, lenN g r n = some k → (evT g tv env r n).length = n
  | r, 0, k, h => by cases r <;> rfl
  | [], n + 1, k, h => by simp [lenN] at h
  | c :: r, n + 1, k, h => by
    obtain ⟨a, m, ha, hm, rfl⟩ := lenN_some h
    have ih := evT_len (tv := tv) (env := env) hm
    rw [evT, ha]
    split
    · have : a = 0 := by
        rename_i h0
        rw [arOf, if_pos h0] at ha
        split at ha
        · cases ha; rfl
        · cases ha
      subst this
      simpa using ih
    · simp [ih]
theorem evT_app {g : List Sym} {tv : Int → List Int → Int} {env : Int → Int} : ∀ {r : List Int} {n k : Nat} (m : Nat), lenN g r n = some k → evT g tv env r (n + m) = evT g tv env r n ++ evT g tv env (r.drop k) m
  | r, 0, k, m, h => by
    have : k = 0 := by cases r <;> (simp [lenN] at h; exact h.symm)
    subst this
    cases r <;> simp [evT]
  | [], n + 1, k, m, h => by simp [lenN] at h
  | c :: r, n + 1, k, m, h => by
    obtain ⟨a, j, ha, hj, rfl⟩ := lenN_some h
    have ih := evT_app (tv := tv) (env := env) m hj
    have hl := evT_len (tv := tv) (env := env) hj
    rw [show n + 1 + m = (n + m) + 1 by omega, evT, evT, ha]
    simp only [Option.getD_some, List.drop_succ_cons]
    rw [show n + m + a = n + a + m by omega, ih]
    split
    · have : a = 0 := by
        rename_i h0
        rw [arOf, if_pos h0] at ha
        split at ha
        · cases ha; rfl
        · cases ha
      subst this
      have e1 : evT g tv env r (n + m) = evT g tv env r n ++ evT g tv env (r.drop j) m := by simpa using ih
      simp [e1]
    · rw [List.take_append_of_le_length (by omega), List.drop_append_of_le_length (by omega)]; rfl
theorem evT_take {g : List Sym} {tv : Int → List Int → Int} {env : Int → Int} : ∀ {r : List Int} {n k : Nat}, lenN g r n = some k → evT g tv env (r.take k) n = evT g tv env r n
  | r, 0, k, h => by cases r <;> cases k <;> rfl
  | [], n + 1, k, h => by simp [lenN] at h
  | c :: r, n + 1, k, h => by
    obtain ⟨a, m, ha, hm, rfl⟩ := lenN_some h
    have ih := evT_take (tv := tv) (env := env) hm
    rw [List.take_succ_cons, evT, evT, ha]
    simp only [Option.getD_some]
    rw [ih]
    split
    · have : a = 0 := by
        rename_i h0
        rw [arOf, if_pos h0] at ha
        split at ha
        · cases ha; rfl
        · cases ha
      subst this
      have e1 : evT g tv env (r.take m) n = evT g tv env r n := by simpa using ih
      rw [e1]
    · rfl
theorem evT_map {g : List Sym} {tv : Int → List Int → Int} {env env' : Int → Int} (f : Int → Int) (hf : ∀ c, (f c < 0 ↔ c < 0) ∧ (0 ≤ c → f c = c)) : ∀ {r : List Int} {n : Nat}, (∀ c ∈ r, c < 0 → env (f c) = env' c) → evT g tv env (r.map f) n = evT g tv env' r n
  | r, 0, h => by cases r <;> rfl
  | [], n + 1, h => rfl
  | c :: r, n + 1, h => by
    have hr : ∀ x ∈ r, x < 0 → env (f x) = env' x := fun x hx => h x (by simp [hx])
    simp only [List.map_cons, evT]
    by_cases h0 : c < 0
    · rw [if_pos ((hf c).1.2 h0), if_pos h0, h c (by simp) h0, evT_map f hf hr]
    · rw [if_neg (fun h1 => h0 ((hf c).1.1 h1)), if_neg h0, (hf c).2 (by omega), evT_map f hf hr]
theorem evT_ext {g : List Sym} {tv : Int → List Int → Int} {env env' : Int → Int} {r : List Int} {n : Nat} (h : ∀ c ∈ r, c < 0 → env c = env' c) : evT g tv env r n = evT g tv env' r n := by
  have := evT_map (g := g) (tv := tv) (env := env) (env' := env') id (fun c => ⟨Iff.rfl, fun _ => rfl⟩) (r := r) (n := n) h
  rwa [List.map_id] at this
def valsF (g : List Sym) (tv : Int → List Int → Int) (env : Int → Int) (r : List Int) : List Int := evT g tv env r (termsN g r)
/-- Does an atom hold? `pv` tells it of a predicate. -/
def atomH (g : List Sym) (tv : Int → List Int → Int) (pv : Int → List Int → Bool) (env : Int → Int) (a : List Int) : Bool :=
  if gi a 0 = 0 then decide (gi (valsF g tv env a.tail) 0 = gi (valsF g tv env a.tail) 1) else pv (gi a 0) (valsF g tv env a.tail)
def litH (g : List Sym) (tv : Int → List Int → Int) (pv : Int → List Int → Bool) (env : Int → Int) (l : LC) : Bool := atomH g tv pv env l.2 != l.1
def tupH (g : List Sym) (tv : Int → List Int → Int) (qv : List Int → Bool) (env : Int → Int) (r : List Int) : Bool := qv (valsF g tv env r)
def hereH (g : List Sym) (tv : Int → List Int → Int) (pv : Int → List Int → Bool) (qv : List Int → Bool) (c : CC) (env : Int → Int) : Bool :=
  c.cs.any (fun l => !litH g tv pv env l) || (c.ls.any (litH g tv pv env) || c.ts.any (tupH g tv qv env))
theorem any_mem {α : Type} {l m : List α} (p : α → Bool) (h : ∀ x, x ∈ l ↔ x ∈ m) : l.any p = m.any p := by
  rw [Bool.eq_iff_iff, List.any_eq_true, List.any_eq_true]; simp only [h]
theorem here_once {g : List Sym} {tv : Int → List Int → Int} {pv : Int → List Int → Bool} {qv : List Int → Bool} (c : CC) (env : Int → Int) : hereH g tv pv qv (onceC c) env = hereH g tv pv qv c env := by
  unfold hereH onceC
  rw [any_mem _ (fun x => by rw [mem_once]; simp : ∀ x, x ∈ onceK id [] c.cs ↔ x ∈ c.cs), any_mem _ (fun x => by rw [mem_once]; simp : ∀ x, x ∈ onceK id [] c.ls ↔ x ∈ c.ls), any_mem _ (fun x => by rw [mem_once]; simp : ∀ x, x ∈ onceK id [] c.ts ↔ x ∈ c.ts)]
theorem any_ext {α : Type} {l : List α} {p q : α → Bool} (h : ∀ x ∈ l, p x = q x) : l.any p = l.any q := by
  induction l with
  | nil => rfl
  | cons x l ih => rw [List.any_cons, List.any_cons, h x (by simp), ih (fun y hy => h y (by simp [hy]))]
theorem atom_row {g : List Sym} {p : Int} {r : List Int} (h : atomB g (p :: r) = true) : 0 ≤ p ∧ rowB g r = true := by
  simp only [atomB] at h
  split at h
  · cases h
  · split at h
    · cases h
    · simp only [Bool.and_eq_true] at h
      refine ⟨by omega, ?_⟩
      unfold rowB
      cases hp : rowP g r with
      | none => rw [hp] at h; simp at h
      | some ts => simp [h.1.2]
theorem atom_ren {g : List Sym} {tv : Int → List Int → Int} {pv : Int → List Int → Bool} {env env' : Int → Int} {s : List Int} (hs : s.length ≤ 24) {a : List Int} (ha : atomB g a = true) (hm : ∀ c ∈ a, c < 0 → c ∈ s) (h : ∀ c ∈ a, c < 0 → env (renC s c) = env' c) : atomH g tv pv env (renR s a) = atomH g tv pv env' a := by
  cases a with
  | nil => simp [atomB] at ha
  | cons p r =>
    obtain ⟨h0, h1⟩ := atom_row ha
    have hp : renC s p = p := by simp [renC, h0]
    have h2 := ren_row hs h1 (fun c hc => hm c (by simp [hc]))
    have h3 : valsF g tv env (renR s r) = valsF g tv env' r := by
      unfold valsF
      rw [h2.2]
      exact evT_map (renC s) (fun c => ⟨ren_neg s c, fun h => by simp [renC, h]⟩) (fun c hc => h c (by simp [hc]))
    have h4 : renR s (p :: r) = p :: renR s r := by simp [renR, hp]
    rw [h4, atomH, atomH, List.tail_cons, List.tail_cons, h3]; rfl
theorem here_ren {g : List Sym} {tv : Int → List Int → Int} {pv : Int → List Int → Bool} {qv : List Int → Bool} {env env' : Int → Int} {s : List Int} (hs : s.length ≤ 24) {c : CC} (hc : ClOk g c) (hm : ∀ r ∈ c.rows, ∀ x ∈ r, x < 0 → x ∈ s) (h : ∀ r ∈ c.rows, ∀ x ∈ r, x < 0 → env (renC s x) = env' x) : hereH g tv pv qv (renCC s c) env = hereH g tv pv qv c env' := by
  unfold hereH renCC
  simp only [List.any_map]
  have h1 : ∀ l ∈ c.ls, litH g tv pv env (renL s l) = litH g tv pv env' l := fun l hl => by
    unfold litH renL
    rw [atom_ren hs (hc.la l hl) (hm _ (in_ls hl)) (h _ (in_ls hl))]
  have h2 : ∀ l ∈ c.cs, litH g tv pv env (renL s l) = litH g tv pv env' l := fun l hl => by
    unfold litH renL
    rw [atom_ren hs (hc.ca l hl) (hm _ (in_cs hl)) (h _ (in_cs hl))]
  have h3 : ∀ r ∈ c.ts, tupH g tv qv env (renR s r) = tupH g tv qv env' r := fun r hr => by
    obtain ⟨k, hk⟩ := hc.tr
    have hin : r ∈ c.rows := by simp [CC.rows, hr]
    unfold tupH valsF
    rw [(ren_row hs (hk r hr).1 (hm r hin)).2]
    exact congrArg qv (evT_map (renC s) (fun c => ⟨ren_neg s c, fun h => by simp [renC, h]⟩) (h r hin))
  have k1 : c.cs.any ((fun l => !litH g tv pv env l) ∘ renL s) = c.cs.any fun l => !litH g tv pv env' l := any_ext fun l hl => congrArg (fun b => !b) (h2 l hl)
  have k2 : c.ls.any (litH g tv pv env ∘ renL s) = c.ls.any (litH g tv pv env') := any_ext fun l hl => h1 l hl
  have k3 : c.ts.any (tupH g tv qv env ∘ renR s) = c.ts.any (tupH g tv qv env') := any_ext fun l hl => h3 l hl
  rw [k1, k2, k3]
theorem here_ext {g : List Sym} {tv : Int → List Int → Int} {pv : Int → List Int → Bool} {qv : List Int → Bool} {env env' : Int → Int} {c : CC} (h : ∀ r ∈ c.rows, ∀ x ∈ r, x < 0 → env x = env' x) : hereH g tv pv qv c env = hereH g tv pv qv c env' := by
  have hv : ∀ (a b : List Int), a.tail = b → (∀ x ∈ a, x < 0 → env x = env' x) → valsF g tv env b = valsF g tv env' b := fun a b hb ha => evT_ext (fun c hc => ha c (List.mem_of_mem_tail (hb ▸ hc)))
  have h1 : ∀ l ∈ c.ls, litH g tv pv env l = litH g tv pv env' l := fun l hl => by
    unfold litH atomH; rw [hv l.2 _ rfl (h _ (in_ls hl))]
  have h2 : ∀ l ∈ c.cs, litH g tv pv env l = litH g tv pv env' l := fun l hl => by
    unfold litH atomH; rw [hv l.2 _ rfl (h _ (in_cs hl))]
  have h3 : ∀ r ∈ c.ts, tupH g tv qv env r = tupH g tv qv env' r := fun r hr =>
    congrArg qv (evT_ext (h r (by simp [CC.rows, hr])))
  unfold hereH
  rw [any_ext (q := fun l => !litH g tv pv env' l) (fun l hl => by rw [h2 l hl]), any_ext h1, any_ext h3]
/-- What stands for variables. -/
def envV (vs ds : List Int) (c : Int) : Int := if (-1 - c) ∈ vs then gi ds (vs.idxOf (-1 - c)) else 0
/-- Whatever stands for the variables. -/
def holdsP (sz : Int) (vs : List Int) (here : (Int → Int) → Bool) : Prop := ∀ ds : List Int, ds.length = vs.length → (∀ d ∈ ds, 0 ≤ d ∧ d < sz) → here (envV vs ds) = true
theorem gi_map {α : Type} (f : α → Int) : ∀ (l : List α) (i : Nat) (h : i < l.length), gi (l.map f) i = f l[i] := fun l i h => by simp [gi, h]
theorem holds_norm {g : List Sym} {tv : Int → List Int → Int} {pv : Int → List Int → Bool} {qv : List Int → Bool} {c : CC} (hc : ClOk g c) (sz : Int) : holdsP sz (varsC (normC c).rows) (hereH g tv pv qv (normC c)) ↔ holdsP sz (varsC c.rows) (hereH g tv pv qv c) := by
  have hs := seenC_len hc
  have hm : ∀ r ∈ c.rows, ∀ x ∈ r, x < 0 → x ∈ seenC c := fun r hr x hx h0 => mem_seenC.2 ⟨h0, r, hr, hx⟩
  have ho : ClOk g (onceC c) := by
    obtain ⟨k, hk⟩ := hc.tr
    refine ⟨hc.sg, Nat.le_trans (once_len id c.ls []) (by simpa using hc.l5), Nat.le_trans (once_len id c.ts []) (by simpa using hc.t3), Nat.le_trans (once_len id c.cs []) (by simpa using hc.c3), fun l hl => hc.la l (by simpa using (mem_once c.ls [] l).1 hl), ⟨k, fun r hr => hk r (by simpa using (mem_once c.ts [] r).1 hr)⟩, fun l hl => hc.ca l (by simpa using (mem_once c.cs [] l).1 hl), ?_⟩
    refine Nat.le_trans ?_ hc.sum
    simp only [CC.rows, onceC, lenI_app]
    have h1 := lenI_once (fun l : LC => l.2) c.ls []
    have h2 := lenI_once (fun l : List Int => l) c.ts []
    have h3 := lenI_once (fun l : LC => l.2) c.cs []
    simp [lenI] at h1 h2 h3
    omega
  have hh : ∀ env env' : Int → Int, (∀ x ∈ seenC c, env (renC (seenC c) x) = env' x) → hereH g tv pv qv (normC c) env = hereH g tv pv qv c env' := fun env env' h => by
    rw [normC, here_ren hs ho (fun r hr => hm r (mem_onceC.1 hr)) (fun r hr x hx h0 => h x (hm r (mem_onceC.1 hr) x hx h0)), here_once]
  have hl := vars_len c
  rw [vars_norm]
  have hidx : ∀ x ∈ seenC c, x < 0 := fun x hx => (mem_seenC.1 hx).1
  have hR : ∀ i, i < (seenC c).length → (((List.range (seenC c).length).map fun (i : Nat) => (i : Int)).idxOf (i : Int)) = i := by
    intro i hi
    have hn : ((List.range (seenC c).length).map fun (i : Nat) => (i : Int)).Nodup := by
      rw [List.nodup_iff_pairwise_ne]
      exact List.pairwise_map.2 (List.pairwise_lt_range.imp (fun h => by omega))
    have := hn.idxOf_getElem i (by simpa using hi)
    simpa using this
  have hE : ∀ (ds : List Int) (x : Int), x ∈ seenC c → envV ((List.range (seenC c).length).map fun (i : Nat) => (i : Int)) ds (renC (seenC c) x) = gi ds ((seenC c).idxOf x) := by
    intro ds x hx
    have h0 := hidx x hx
    have h1 := List.idxOf_lt_length_of_mem hx
    have h2 : -1 - renC (seenC c) x = (((seenC c).idxOf x : Nat) : Int) := by rw [renC, if_neg (by omega)]; omega
    rw [envV, h2, if_pos (List.mem_map.2 ⟨_, List.mem_range.2 h1, rfl⟩), hR _ h1]
  constructor
  · intro h ds hd1 hd2
    have h1 := h ((seenC c).map fun x => envV (varsC c.rows) ds x) (by simp) (by
      intro d hd
      obtain ⟨x, hx, rfl⟩ := List.mem_map.1 hd
      unfold envV
      split
      · rename_i h2
        exact hd2 _ (gi_mem (by rw [hd1]; exact List.idxOf_lt_length_of_mem h2))
      · rename_i h2
        refine absurd ((vars_seen c).2 ⟨by have := hidx x hx; omega, ?_⟩) h2
        rw [show (-1 - (-1 - x) : Int) = x by omega]; exact hx)
    rw [hh _ (envV (varsC c.rows) ds) (fun x hx => by
      rw [hE _ x hx, gi_map _ _ _ (List.idxOf_lt_length_of_mem hx), List.getElem_idxOf])] at h1
    exact h1
  · intro h ds hd1 hd2
    have hd3 : ds.length = (seenC c).length := by simpa using hd1
    have h1 := h ((varsC c.rows).map fun v => gi ds ((seenC c).idxOf (-1 - v))) (by simp) (by
      intro d hd
      obtain ⟨v, hv, rfl⟩ := List.mem_map.1 hd
      exact hd2 _ (gi_mem (by rw [hd3]; exact List.idxOf_lt_length_of_mem ((vars_seen c).1 hv).2)))
    rw [hh _ _ (fun x hx => ?_)]
    · exact h1
    · rw [hE _ x hx]
      have h0 := hidx x hx
      have h2 : (-1 - x) ∈ varsC c.rows := (vars_seen c).2 ⟨by omega, by rw [show (-1 - (-1 - x) : Int) = x by omega]; exact hx⟩
      rw [envV, if_pos h2, gi_map _ _ _ (List.idxOf_lt_length_of_mem h2), List.getElem_idxOf, show (-1 - (-1 - x) : Int) = x by omega]
theorem here_triv {g : List Sym} {tv : Int → List Int → Int} {pv : Int → List Int → Bool} {qv : List Int → Bool} {c : CC} (hc : ClOk g c) (ht : trivB g c.ls = true) (env : Int → Int) : hereH g tv pv qv c env = true := by
  unfold hereH
  have : c.ls.any (litH g tv pv env) = true := by
    rw [trivB, List.any_eq_true] at ht
    obtain ⟨l, hl, h⟩ := ht
    rw [Bool.or_eq_true] at h
    rcases h with h | h
    · refine List.any_eq_true.2 ⟨l, hl, ?_⟩
      have ha := hc.la l hl
      obtain ⟨b, a⟩ := l
      simp only [selfB, Bool.and_eq_true, Bool.not_eq_true', beq_iff_eq] at h
      obtain ⟨h1, h2, h3⟩ := h
      subst h1
      unfold litH atomH
      simp only [h2, if_true]
      split at h3
      · rename_i x y hp
        have hxy : x = y := by simpa using h3
        subst hxy
        cases a with
        | nil => simp [atomB] at ha
        | cons p r =>
          rw [List.tail_cons] at hp ⊢
          have h6 := rowB_parts (atom_row ha).2
          have h7 : termsN g r = 2 := by rw [termsN_of h6.1 h6.2.1 hp]; rfl
          obtain ⟨h8, h9⟩ | ⟨k, us, h8, h9, h10, _⟩ := parts_cases hp
          · cases h9
          · simp only [List.cons.injEq] at h10
            obtain ⟨h11, rfl⟩ := h10
            obtain ⟨h12, h13⟩ | ⟨k2, us2, h12, h13, h14, _⟩ := parts_cases h9
            · cases h13
            · simp only [List.cons.injEq] at h14
              have e1 := evT_take (tv := tv) (env := env) h8
              have e2 := evT_take (tv := tv) (env := env) h12
              have e3 := evT_app (tv := tv) (env := env) 1 h8
              have e4 : evT g tv env (r.drop k) 1 = evT g tv env r 1 := by rw [← e1, ← e2, ← h11, h14.1]
              have e5 := evT_len (tv := tv) (env := env) h8
              have e6 : valsF g tv env r = evT g tv env r 1 ++ evT g tv env r 1 := by unfold valsF; rw [h7, ← e4]; exact e3.trans (by rw [e4])
              rw [e6]
              generalize evT g tv env r 1 = w at *
              obtain ⟨a, rfl⟩ : ∃ a, w = [a] := List.length_eq_one_iff.1 e5
              simp [gi]
      · cases h3
    · obtain ⟨m, hm, ho⟩ := List.any_eq_true.1 h
      simp only [oddB, Bool.and_eq_true, decide_eq_true_eq, bne_iff_ne] at ho
      cases h5 : litH g tv pv env l
      · refine List.any_eq_true.2 ⟨m, hm, ?_⟩
        unfold litH at h5 ⊢
        rw [← ho.2]
        have := ho.1
        cases h6 : atomH g tv pv env l.2 <;> cases h7 : l.1 <;> cases h8 : m.1 <;> simp_all
      · exact List.any_eq_true.2 ⟨l, hl, h5⟩
  simp [this]
end Go.Qu

/- Structures of a few things: what the reference's functions hand back. For every input; no condition. -/
set_option linter.unusedVariables false
set_option linter.unusedSimpArgs false
set_option maxRecDepth 100000
namespace Go.Proofs.YtjhganbjbiihoaaDoor.Ab
open Go Go.Ab Go.Qu Go.Proofs
attribute [local simp] and_assoc
def hashS (h a : Int) : Int := IntKind.wrap .u64 (IntKind.wrap .u64 (IntKind.wrap .u64 (h * 5) + IntKind.wrap .u64 a) + 3)
def hashF (h : Int) (l : List Int) : Int := l.foldl hashS h
def hash0 (c : Int) : Int := IntKind.wrap .u64 (IntKind.wrap .i64 (IntKind.wrap .i64 (c * 7) + 1))
def andI (w m : Int) : Int := IntKind.wrap .i64 ((BitVec.toNat (BitVec.ofInt (IntKind.bits .i64) w &&& BitVec.ofInt (IntKind.bits .i64) m) : Nat) : Int)
def lookI (ns : List Int) (c : Int) (l : List Int) : Int := IntKind.wrap .i64 (Int.tmod (hashF (hash0 c) l) (IntKind.wrap .u64 (ns.length : Int)))
def lookV (ns : List Int) (c : Int) (l : List Int) : Int := if ns = [] then 0 else andI (gi ns (lookI ns c l).toNat) 255
theorem u64_ge (x : Int) : 0 ≤ IntKind.wrap .u64 x ∧ IntKind.wrap .u64 x < 18446744073709551616 := by
  unfold IntKind.wrap
  simp [IntKind.signed, IntKind.bits]
  omega
theorem u64_len {n : Nat} (h : n < 20000000000000) : IntKind.wrap .u64 (n : Int) = n := by
  unfold IntKind.wrap
  simp [IntKind.signed, IntKind.bits]
  omega
theorem hashF_ge : ∀ (l : List Int) {h : Int}, 0 ≤ h → 0 ≤ hashF h l
  | [], h, h0 => h0
  | a :: l, h, _ => hashF_ge l (h := hashS h a) (u64_ge _).1
theorem lookI_in {ns : List Int} (hn : ns ≠ []) (hl : ns.length < 20000000000000) (c : Int) (l : List Int) : 0 ≤ lookI ns c l ∧ lookI ns c l < ns.length := by
  unfold lookI
  rw [u64_len hl]
  have h0 := hashF_ge l (h := hash0 c) (u64_ge _).1
  have h1 : (0 : Int) < ns.length := by have := List.length_pos_iff.2 hn; omega
  have h2 := Int.tmod_nonneg (ns.length : Int) h0
  have h3 := Int.tmod_lt_of_pos (hashF (hash0 c) l) h1
  rw [wr _ (by omega) (by omega)]
  exact ⟨h2, h3⟩
/-- A structure. -/
abbrev dM (sz : Int) (zn : Bool) (ns : List Int) (en : List D) : List D := [.int .i64 sz, .sl 1 zn (ints ns) en]
abbrev iM (sz : Int) (zn : Bool) (ns : List Int) (en : List D) : IV := .d (.agg (dM sz zn ns en))
abbrev bMd (sz : Int) (zn : Bool) (ns : List Int) (en : List D) : IV := .dbox 61 0 (dM sz zn ns en)
theorem l_look (sz : Int) (zn : Bool) (ns : List Int) (en : List D) {l : List Int} (hl : Len l) (z : Bool) (e : List D) (x : Int × Nat) (hx : x.2 ≤ l.length) :
    evP F (Go.Ab.W F) (JW F d111 []) d111 [] [1,1,1,0,1] [(2, iS z l e), (3, bMd sz zn ns en), (7, .d (.int .u64 x.1)), (8, iI x.2)] = some (.norm [(2, iS z l e), (3, bMd sz zn ns en), (7, .d (.int .u64 (hashF x.1 (l.drop x.2)))), (8, iI l.length)]) :=
  blk_fun (F := F) (d := d111) (lk := []) (p := [1,1,1,0,1,0,0]) (p0 := [1,1,1,0,1]) (id := 0) (by kernel_rfl) (st := fun (x : Int × Nat) => [(2, iS z l e), (3, bMd sz zn ns en), (7, .d (.int .u64 x.1)), (8, iI x.2)]) (I := fun x => x.2 ≤ l.length) (μ := fun x => l.length - x.2)
    (res := fun x => .norm [(2, iS z l e), (3, bMd sz zn ns en), (7, .d (.int .u64 (hashF x.1 (l.drop x.2)))), (8, iI l.length)])
    (fun x hx => by
      obtain ⟨h, i⟩ := x
      dsimp only at hx
      have hlt := hl.lt
      by_cases hi : i < l.length
      · have hi' : (i : Int) < l.length := by omega
        refine .go (hashS h (gi l i), i + 1) (wpQ_way (q111_l0a _ _ z (ints l) e sz zn (ints ns) en h i _) ?_) hi (by dsimp only; omega) ?_
        · refine condW_t (by rw [ints_len]; exact decide_eq_true hi') (condW_t (by simp) ⟨_, Go.Ab.ints_at hi, ?_⟩)
          rw [wr1 hi (by omega)]; rfl
        · dsimp only
          rw [gi_drop hi]; rfl
      · have e0 : i = l.length := by omega
        subst e0
        refine .stop (.exit 0 [(2, iS z l e), (3, bMd sz zn ns en), (7, .d (.int .u64 h)), (8, iI l.length)]) (wpQ_way (q111_l0a _ _ z (ints l) e sz zn (ints ns) en h l.length _) (condW_f (by rw [ints_len]; simp) rfl)) rfl ?_
        rw [List.drop_length]; rfl) x hx
theorem w_look (sz : Int) (zn : Bool) {ns : List Int} (hns : Len ns) (en : List D) (c : Int) {l : List Int} (hl : Len l) (z : Bool) (e : List D) : C 111 [iM sz zn ns en, iI c, iS z l e] = some (iI (lookV ns c l), [iM sz zn ns en, iI c, iS z l e]) := by
  refine wfn (lk := []) rfl rfl (fnW_way (q111 _ _ sz zn (ints ns) en c z (ints l) e _) ?_)
  unfold lookV
  by_cases hn : ns = []
  · subst hn
    exact condW_t rfl (by rw [if_pos rfl])
  · rw [if_neg hn]
    have hpos := List.length_pos_iff.2 hn
    refine condW_f (by rw [ints_len]; simp; omega) ?_
    have h1 := l_look sz zn ns en hl z e (hash0 c, 0) (Nat.zero_le _)
    dsimp only at h1
    rw [List.drop_zero] at h1
    obtain ⟨i0, i1⟩ := lookI_in hn hns.lt c l
    refine ⟨_, _, _, _, _, _, _, _, _, h1, ?_⟩
    rw [ints_len]
    have hu : (!IntKind.wrap .u64 (ns.length : Int) == 0) = true := by rw [u64_len hns.lt]; simp; omega
    refine condW_t hu ?_
    have e1 : IntKind.wrap .i64 (Int.tmod (hashF (hash0 c) l) (IntKind.wrap .u64 (ns.length : Int))) = lookI ns c l := rfl
    rw [e1]
    exact condW_t (decide_eq_true i0) ⟨_, Go.Ab.ints_at (by omega), rfl⟩
/-! ### Values -/
def tvM (sz : Int) (ns : List Int) (c : Int) (l : List Int) : Int := Int.tmod (lookV ns c l) sz
def envF (env : List Int) (c : Int) : Int := gi env (-1 - c).toNat
section
variable {g : List Sym} (hg : SigOk g) {sz : Int} (hs : 1 ≤ sz) (z zn ze : Bool) {ns : List Int} (hns : Len ns) (e en ee : List D) {env : List Int} (he : env.length = 24)
include hg hs hns he
theorem w_value (zr : Bool) (er : List D) {r : List Int} (hr : r.length ≤ 1000) : ∀ (k : Nat) {i : Nat}, lenN g (r.drop i) 1 = some k → C 117 [iM sz zn ns en, iG z g e, iS zr r er, iI i, iS ze env ee] = some (.tup [iI (gi (evT g (tvM sz ns) (envF env) (r.drop i) 1) 0), iI ((i + k : Nat) : Int)], [iM sz zn ns en, iG z g e, iS zr r er, iI i, iS ze env ee]) := by
  intro k
  induction k using Nat.strongRecOn with
  | _ k ih =>
    intro i hk
    have hle := lenN_le hk
    simp only [List.length_drop] at hle
    have hi : i < r.length := by omega
    refine wfn (lk := []) rfl rfl (fnW_way (q117 _ _ sz zn (ints ns) en z (syms g) e zr (ints r) er i ze (ints env) ee _) ?_)
    refine condW_t (by simp) ⟨gi r i, Go.Ab.ints_at hi, ?_⟩
    have hd := gi_drop hi
    have hw1 := wr1 hi (show r.length ≤ 9223372036854775807 by omega)
    rw [hd] at hk ⊢
    obtain ⟨a, m, ha, hm, hkm⟩ := lenN_some (n := 0) hk
    rw [Nat.zero_add] at hm
    by_cases h0 : gi r i < 0
    · have h24 : -24 ≤ gi r i := by
        rw [arOf, if_pos h0] at ha
        split at ha
        · assumption
        · cases ha
      have ha0 : a = 0 := by
        rw [arOf_var h0 h24] at ha
        cases ha; rfl
      subst ha0
      have hm0 : m = 0 := by
        have : lenN g (r.drop (i + 1)) 0 = some 0 := by cases r.drop (i + 1) <;> rfl
        rw [this] at hm; cases hm; rfl
      subst hm0
      have hwn : IntKind.wrap .i64 (-1 - gi r i) = -1 - gi r i := wr _ (by omega) (by omega)
      refine condW_t (decide_eq_true h0) ?_
      rw [hwn]
      have hidx : (-1 - gi r i).toNat < env.length := by omega
      refine condW_t (decide_eq_true (by omega)) ⟨_, Go.Ab.ints_at hidx, ?_⟩
      have e1 : gi (evT g (tvM sz ns) (envF env) (gi r i :: r.drop (i + 1)) 1) 0 = gi env (-1 - gi r i).toNat := by
        rw [evT, if_pos h0]; rfl
      rw [e1, hw1, hkm]
    · refine condW_f (decide_eq_false h0) ?_
      have hs' : ∃ s, g[(gi r i).toNat]? = some s ∧ a = s.ar.toNat := by
        rw [arOf, if_neg h0] at ha
        split at ha
        · cases ha
        · rename_i s hs'
          split at ha
          · cases ha
          · cases ha; exact ⟨s, hs', rfl⟩
      obtain ⟨s, hsy, has⟩ := hs'
      have hnum := hg.nums _ _ hsy
      have hfl := evT_len (tv := tvM sz ns) (env := envF env) hm
      obtain ⟨full, hfull⟩ : ∃ full, full = evT g (tvM sz ns) (envF env) (r.drop (i + 1)) a := ⟨_, rfl⟩
      rw [← hfull] at hfl
      have hml := lenN_le hm
      simp only [List.length_drop] at hml
      have hloop := blk_fun (F := F) (d := d117) (lk := []) (p := [1,1,1,1,1,0,1,0,0]) (p0 := [1,1,1,1,1,0,1]) (id := 0) (by kernel_rfl) (st := fun (x : List Int × Nat × Nat) => [(1, iG z g e), (2, iS zr r er), (3, iI x.2.1), (4, iS ze env ee), (5, bMd sz zn ns en), (12, iI (gi r i)), (13, .own x.1.isEmpty 3 1 (ints x.1)), (14, iI x.2.2)])
        (I := fun x => x.2.2 ≤ a ∧ x.1.length = x.2.2 ∧ i + 1 ≤ x.2.1 ∧ x.2.1 ≤ i + 1 + m ∧ lenN g (r.drop x.2.1) (a - x.2.2) = some (i + 1 + m - x.2.1) ∧ x.1 ++ evT g (tvM sz ns) (envF env) (r.drop x.2.1) (a - x.2.2) = full) (μ := fun x => a - x.2.2)
        (res := fun _ => .norm [(1, iG z g e), (2, iS zr r er), (3, iI ((i + 1 + m : Nat) : Int)), (4, iS ze env ee), (5, bMd sz zn ns en), (12, iI (gi r i)), (13, .own full.isEmpty 3 1 (ints full)), (14, iI a)])
        (fun x hx => by
          obtain ⟨vs, q, j⟩ := x
          obtain ⟨x1, x2, x3, x4, x5, x6⟩ := hx
          dsimp only at x1 x2 x3 x4 x5 x6
          by_cases hj : j < a
          · obtain ⟨n', hn'⟩ : ∃ n', a - j = n' + 1 := ⟨a - j - 1, by omega⟩
            rw [hn'] at x5 x6
            obtain ⟨k1, k2, y1, y2, y3⟩ := lenN_first x5
            have hk1 := lenN_le y1
            have hrec := ih k1 (by omega) y1
            rw [Nat.add_comm n' 1, evT_app n' y1] at x6
            have hl1 := evT_len (tv := tvM sz ns) (env := envF env) y1
            have hv : evT g (tvM sz ns) (envF env) (r.drop q) 1 = [gi (evT g (tvM sz ns) (envF env) (r.drop q) 1) 0] := by
              match hvv : evT g (tvM sz ns) (envF env) (r.drop q) 1, hl1 with
              | [v], _ => rfl
            have hjs : (j : Int) < s.ar := by omega
            refine .go (vs ++ [gi (evT g (tvM sz ns) (envF env) (r.drop q) 1) 0], q + k1, j + 1) (wpQ_way (q117_l0a _ _ z (syms g) e zr (ints r) er q ze (ints env) ee sz zn (ints ns) en (gi r i) vs.isEmpty (ints vs) j _) ?_) ⟨hj, by simp; omega, by dsimp only; omega, by dsimp only; omega, ?_, ?_⟩ (by dsimp only; omega) rfl
            · refine condW_t (decide_eq_true (by omega)) ⟨_, _, _, _, syms_at hsy, condW_t (decide_eq_true hjs) ⟨_, _, _, _, _, _, _, hrec, condW_t (by rw [ints_len]; simp; omega) (condW_t (by rw [ints_len]; simp; omega) ?_)⟩⟩
              rw [wr1 (show j < 1000 by omega) (by omega)]
              have hem : (vs ++ [gi (evT g (tvM sz ns) (envF env) (r.drop q) 1) 0]).isEmpty = false := by simp
              dsimp only
              rw [hem, ints_append]
              simp [ints_cons, ints_nil]
            · dsimp only
              rw [← List.drop_drop, show a - (j + 1) = n' by omega, y2]; congr 1; omega
            · dsimp only
              rw [← List.drop_drop, show a - (j + 1) = n' by omega, List.append_assoc, ← hv]; exact x6
          · have e0 : j = a := by omega
            subst e0
            have hjs : ¬ ((vs.length : Nat) : Int) < s.ar := by omega
            rw [Nat.sub_self] at x5 x6
            have y0 : lenN g (r.drop q) 0 = some 0 := by cases r.drop q <;> rfl
            have y1 : evT g (tvM sz ns) (envF env) (r.drop q) 0 = [] := by cases r.drop q <;> rfl
            rw [y0] at x5
            simp only [Option.some.injEq] at x5
            rw [y1, List.append_nil] at x6
            subst x6
            have hq : q = i + 1 + m := by omega
            subst hq
            refine .stop (.exit 0 [(1, iG z g e), (2, iS zr r er), (3, iI ((i + 1 + m : Nat) : Int)), (4, iS ze env ee), (5, bMd sz zn ns en), (12, iI (gi r i)), (13, .own vs.isEmpty 3 1 (ints vs)), (14, iI j)]) (wpQ_way (q117_l0a _ _ z (syms g) e zr (ints r) er (i + 1 + m : Nat) ze (ints env) ee sz zn (ints ns) en (gi r i) vs.isEmpty (ints vs) j _) ?_) rfl rfl
            refine condW_t (decide_eq_true (by omega)) ⟨_, _, _, _, syms_at hsy, condW_f (decide_eq_false (by omega)) rfl⟩) ([], i + 1, 0) ⟨Nat.zero_le _, rfl, Nat.le_refl _, by dsimp only; omega, by dsimp only; rw [Nat.sub_zero, hm]; congr 1; omega, by dsimp only; rw [Nat.sub_zero, ← hfull]; rfl⟩
      rw [hw1]
      have hlf : Len full := by unfold Len; omega
      have hlk := w_look sz zn hns en (gi r i) hlf full.isEmpty []
      refine ⟨_, _, _, _, _, _, _, _, _, _, _, _, _, _, _, _, _, _, hloop, _, _, _, _, hlk, condW_t (by simp; omega) ?_⟩
      have e1 : gi (evT g (tvM sz ns) (envF env) (gi r i :: r.drop (i + 1)) 1) 0 = Int.tmod (lookV ns (gi r i) full) sz := by
        rw [evT, if_neg h0, ha]
        simp only [Option.getD_some, Nat.zero_add]
        rw [← hfull, List.take_of_length_le (by omega)]
        rfl
      have e2 : i + 1 + m = i + k := by omega
      rw [e1, e2]
theorem w_values (zr : Bool) (er : List D) {r : List Int} (hr : r.length ≤ 1000) {n : Nat} (hn : lenN g r n = some r.length) : C 112 [iM sz zn ns en, iG z g e, iS zr r er, iS ze env ee] = some (.own (evT g (tvM sz ns) (envF env) r n).isEmpty 3 1 (ints (evT g (tvM sz ns) (envF env) r n)), [iM sz zn ns en, iG z g e, iS zr r er, iS ze env ee]) := by
  refine wfn (lk := []) rfl rfl (fnW_way (q112 _ _ sz zn (ints ns) en z (syms g) e zr (ints r) er ze (ints env) ee _) ?_)
  obtain ⟨full, hfull⟩ : ∃ full, full = evT g (tvM sz ns) (envF env) r n := ⟨_, rfl⟩
  have hfl := evT_len (tv := tvM sz ns) (env := envF env) hn
  rw [← hfull] at hfl ⊢
  have hnl := (lenN_le hn).2
  have hloop := blk_fun (F := F) (d := d112) (lk := []) (p := [1,1,1,0,0,0]) (p0 := [1,1,1,0]) (id := 0) (by kernel_rfl) (st := fun (x : List Int × Nat × Nat) => [(1, iG z g e), (2, iS zr r er), (3, iS ze env ee), (4, bMd sz zn ns en), (9, .own x.1.isEmpty 3 1 (ints x.1)), (10, iI x.2.1)])
    (I := fun x => x.2.1 ≤ r.length ∧ x.1.length + x.2.2 = n ∧ lenN g (r.drop x.2.1) x.2.2 = some (r.length - x.2.1) ∧ x.1 ++ evT g (tvM sz ns) (envF env) (r.drop x.2.1) x.2.2 = full) (μ := fun x => r.length - x.2.1)
    (res := fun _ => .norm [(1, iG z g e), (2, iS zr r er), (3, iS ze env ee), (4, bMd sz zn ns en), (9, .own full.isEmpty 3 1 (ints full)), (10, iI r.length)])
    (fun x hx => by
      obtain ⟨vs, q, n'⟩ := x
      obtain ⟨x1, x2, x3, x4⟩ := hx
      dsimp only at x1 x2 x3 x4
      by_cases hq : q < r.length
      · obtain ⟨n1, rfl⟩ : ∃ n1, n' = n1 + 1 := by
          cases n' with
          | zero =>
            have y0 : lenN g (r.drop q) 0 = some 0 := by cases r.drop q <;> rfl
            rw [y0] at x3
            simp only [Option.some.injEq] at x3
            omega
          | succ n1 => exact ⟨n1, rfl⟩
        obtain ⟨k1, k2, y1, y2, y3⟩ := lenN_first x3
        have hk1 := lenN_le y1
        simp only [List.length_drop] at hk1
        have hrec := w_value hg hs z zn ze hns e en ee he zr er hr k1 y1
        rw [Nat.add_comm n1 1, evT_app n1 y1] at x4
        have hl1 := evT_len (tv := tvM sz ns) (env := envF env) y1
        have hv : evT g (tvM sz ns) (envF env) (r.drop q) 1 = [gi (evT g (tvM sz ns) (envF env) (r.drop q) 1) 0] := by
          match hvv : evT g (tvM sz ns) (envF env) (r.drop q) 1, hl1 with
          | [v], _ => rfl
        refine .go (vs ++ [gi (evT g (tvM sz ns) (envF env) (r.drop q) 1) 0], q + k1, n1) (wpQ_way (q112_l0a _ _ z (syms g) e zr (ints r) er ze (ints env) ee sz zn (ints ns) en vs.isEmpty (ints vs) q _) ?_) ⟨by dsimp only; omega, by simp; omega, ?_, ?_⟩ (by dsimp only; omega) rfl
        · refine condW_t (by rw [ints_len]; exact decide_eq_true (by omega)) ⟨_, _, _, _, _, _, _, hrec, condW_t (by rw [ints_len]; simp; omega) (condW_t (by rw [ints_len]; simp; omega) ?_)⟩
          have hem : (vs ++ [gi (evT g (tvM sz ns) (envF env) (r.drop q) 1) 0]).isEmpty = false := by simp
          dsimp only
          rw [hem, ints_append]
          simp [ints_cons, ints_nil]
        · dsimp only
          rw [← List.drop_drop, y2]; congr 1; omega
        · dsimp only
          rw [← List.drop_drop, List.append_assoc, ← hv]; exact x4
      · have e0 : q = r.length := by omega
        subst e0
        refine .stop (.exit 0 [(1, iG z g e), (2, iS zr r er), (3, iS ze env ee), (4, bMd sz zn ns en), (9, .own vs.isEmpty 3 1 (ints vs)), (10, iI r.length)]) (wpQ_way (q112_l0a _ _ z (syms g) e zr (ints r) er ze (ints env) ee sz zn (ints ns) en vs.isEmpty (ints vs) r.length _) (condW_f (by rw [ints_len]; simp) rfl)) rfl ?_
        have hn0 : n' = 0 := by
          have := (lenN_le x3).2; omega
        subst hn0
        rw [List.drop_length] at x4
        have y1 : evT g (tvM sz ns) (envF env) [] 0 = [] := rfl
        rw [y1, List.append_nil] at x4
        rw [x4]; rfl) ([], 0, n) ⟨Nat.zero_le _, by simp, by dsimp only; simpa using hn, by dsimp only; rw [List.drop_zero, ← hfull]; rfl⟩
  exact ⟨_, _, _, _, _, _, _, _, _, _, _, _, _, _, _, _, hloop, rfl⟩
def pvM (ns : List Int) (c : Int) (l : List Int) : Bool := decide (andI (lookV ns c l) 1 = 1)
def qvM (ns : List Int) (l : List Int) : Bool := decide (andI (lookV ns 101 l) 2 = 2)
theorem w_matom (za : Bool) (ea : List D) {a : List Int} (ha : atomB g a = true) : C 110 [iM sz zn ns en, iG z g e, iS za a ea, iS ze env ee] = some (iB (atomH g (tvM sz ns) (pvM ns) (envF env) a), [iM sz zn ns en, iG z g e, iS za a ea, iS ze env ee]) := by
  obtain ⟨hl, _, _⟩ := atom_codes ha
  obtain ⟨p, r, rfl⟩ : ∃ p r, a = p :: r := by cases a with | nil => simp [atomB] at ha | cons p r => exact ⟨p, r, rfl⟩
  obtain ⟨hp, hrb⟩ := atom_row ha
  obtain ⟨hsg, hr48, ts, hts, hrp⟩ := rowB_parts hrb
  have hn := parts_all _ (Nat.le_refl _) hts
  have htn : termsN g r = ts.length := termsN_of hsg hr48 hts
  have hv := w_values hg hs z zn ze hns e en ee he za [] (r := r) (by omega) hn
  have hvl := evT_len (tv := tvM sz ns) (env := envF env) hn
  refine wfn (lk := []) rfl rfl (fnW_way (q110 _ _ sz zn (ints ns) en z (syms g) e za (ints (p :: r)) ea ze (ints env) ee _) ?_)
  have hd : List.drop (Int.toNat 1) (ints (p :: r)) = ints r := rfl
  rw [hd]
  have hH : atomH g (tvM sz ns) (pvM ns) (envF env) (p :: r) = if p = 0 then decide (gi (evT g (tvM sz ns) (envF env) r ts.length) 0 = gi (evT g (tvM sz ns) (envF env) r ts.length) 1) else pvM ns p (evT g (tvM sz ns) (envF env) r ts.length) := by
    unfold atomH valsF
    rw [List.tail_cons, htn]; rfl
  rw [hH]
  refine condW_t (by simp [ints_len]; omega) ⟨_, _, _, _, _, _, hv, p, rfl, ?_⟩
  by_cases h0 : p = 0
  · subst h0
    have h2 : ts.length = 2 := by
      have hg0 : ∃ s, g[0]? = some s ∧ s.ar = 2 := by
        unfold sigB at hsg
        simp only [Bool.and_eq_true] at hsg
        have h3 := hsg.1.2
        split at h3
        · rename_i s hs0
          simp only [eqSym, Bool.and_eq_true, beq_iff_eq] at h3
          exact ⟨s, hs0, h3.2.2.1⟩
        · cases h3
      obtain ⟨s, hs0, har⟩ := hg0
      unfold atomB at ha
      dsimp only at ha
      rw [if_neg (by omega), show Int.toNat 0 = 0 from rfl, hs0] at ha
      dsimp only at ha
      rw [hrp] at ha
      simp only [Bool.and_eq_true, beq_iff_eq] at ha
      have := ha.2
      omega
    rw [h2] at hvl hv ⊢
    rw [if_pos rfl]
    have i0 := Go.Ab.ints_at (l := evT g (tvM sz ns) (envF env) r 2) (i := 0) (by omega)
    have i1 := Go.Ab.ints_at (l := evT g (tvM sz ns) (envF env) r 2) (i := 1) (by omega)
    refine condW_t rfl ⟨_, i0, _, i0, _, i1, _, i1, ?_⟩
    by_cases he2 : gi (evT g (tvM sz ns) (envF env) r 2) 0 = gi (evT g (tvM sz ns) (envF env) r 2) 1
    · rw [decide_eq_true he2]; exact condW_t (by simpa using he2) rfl
    · rw [decide_eq_false he2]; exact condW_f (by simpa using he2) rfl
  · rw [if_neg h0]
    have hlk := w_look sz zn hns en p (l := evT g (tvM sz ns) (envF env) r ts.length) (by have := (lenN_le hn).2; unfold Len; omega) (evT g (tvM sz ns) (envF env) r ts.length).isEmpty []
    refine condW_f (by simpa using h0) ⟨p, rfl, _, _, _, _, hlk, ?_⟩
    unfold pvM
    by_cases h1 : andI (lookV ns p (evT g (tvM sz ns) (envF env) r ts.length)) 1 = 1
    · rw [decide_eq_true h1]; exact condW_t (by simpa [andI] using h1) rfl
    · rw [decide_eq_false h1]; exact condW_f (by simpa [andI] using h1) rfl
theorem w_mlit {l : LitR} (hl : atomB g l.r.l = true) : C 93 [iM sz zn ns en, iG z g e, iLit l.neg l.r.z l.r.l l.r.e, iS ze env ee] = some (iB (litH g (tvM sz ns) (pvM ns) (envF env) l.c), [iM sz zn ns en, iG z g e, iLit l.neg l.r.z l.r.l l.r.e, iS ze env ee]) := by
  refine wfn (lk := []) rfl rfl (fnW_way (q93 _ _ sz zn (ints ns) en z (syms g) e l.neg l.r.z (ints l.r.l) l.r.e ze (ints env) ee _) ?_)
  have h1 := w_matom hg hs z zn ze hns e en ee he l.r.z l.r.e hl
  refine ⟨_, _, _, _, _, h1, ?_⟩
  have hc : litH g (tvM sz ns) (pvM ns) (envF env) l.c = (atomH g (tvM sz ns) (pvM ns) (envF env) l.r.l != l.neg) := rfl
  rw [hc]
  cases atomH g (tvM sz ns) (pvM ns) (envF env) l.r.l <;> cases l.neg <;> rfl
theorem w_mtuple {r : Row} (hr : rowB g r.l = true) : C 94 [iM sz zn ns en, iG z g e, iS r.z r.l r.e, iS ze env ee] = some (iB (tupH g (tvM sz ns) (qvM ns) (envF env) r.l), [iM sz zn ns en, iG z g e, iS r.z r.l r.e, iS ze env ee]) := by
  obtain ⟨hsg, hr48, ts, hts, hrp⟩ := rowB_parts hr
  have hn := parts_all _ (Nat.le_refl _) hts
  have htn : termsN g r.l = ts.length := termsN_of hsg hr48 hts
  have hv := w_values hg hs z zn ze hns e en ee he r.z r.e (r := r.l) (by omega) hn
  have hvl := evT_len (tv := tvM sz ns) (env := envF env) hn
  refine wfn (lk := []) rfl rfl (fnW_way (q94 _ _ sz zn (ints ns) en z (syms g) e r.z (ints r.l) r.e ze (ints env) ee _) ?_)
  have hlk := w_look sz zn hns en 101 (l := evT g (tvM sz ns) (envF env) r.l ts.length) (by have := (lenN_le hn).2; unfold Len; omega) (evT g (tvM sz ns) (envF env) r.l ts.length).isEmpty []
  refine ⟨_, _, _, _, _, _, hv, _, _, _, _, hlk, ?_⟩
  unfold tupH qvM valsF
  rw [htn]
  by_cases h1 : andI (lookV ns 101 (evT g (tvM sz ns) (envF env) r.l ts.length)) 2 = 2
  · rw [decide_eq_true h1]; exact condW_t (by simpa [andI] using h1) rfl
  · rw [decide_eq_false h1]; exact condW_f (by simpa [andI] using h1) rfl
end
end Go.Proofs.YtjhganbjbiihoaaDoor.Ab

/- Structures of a few things: all that may stand for variables, one by one; what says as much holds as far. Plain lists; no condition. -/
set_option linter.unusedVariables false
set_option linter.unusedSimpArgs false
namespace Go.Qu
open Go Go.Ab
/-! ### Counting -/
def incD (sz : Int) : List Int → Option (List Int)
  | [] => none
  | d :: ds => if d + 1 < sz then some ((d + 1) :: ds) else (incD sz ds).map (0 :: ·)
def valD (sz : Int) : List Int → Int
  | [] => 0
  | d :: ds => d + sz * valD sz ds
def okD (sz : Int) (ds : List Int) : Prop := ∀ d ∈ ds, 0 ≤ d ∧ d < sz
theorem okD_cons {sz d : Int} {ds : List Int} : okD sz (d :: ds) ↔ (0 ≤ d ∧ d < sz) ∧ okD sz ds := by
  unfold okD
  exact ⟨fun h => ⟨h d (by simp), fun x hx => h x (by simp [hx])⟩, fun h x hx => by
    rcases List.mem_cons.1 hx with rfl | hx
    · exact h.1
    · exact h.2 x hx⟩
theorem val_ge {sz : Int} (hs : 1 ≤ sz) : ∀ {ds : List Int}, okD sz ds → 0 ≤ valD sz ds
  | [], _ => by simp [valD]
  | d :: ds, h => by
    have h1 := okD_cons.1 h
    have ih := val_ge hs h1.2
    have : 0 ≤ sz * valD sz ds := Int.mul_nonneg (by omega) ih
    rw [valD]; omega
theorem mul_step {sz a b : Int} (hs : 1 ≤ sz) (h : a < b) : sz * a + sz ≤ sz * b := by
  have : sz * (a + 1) ≤ sz * b := Int.mul_le_mul_of_nonneg_left (by omega) (by omega)
  rw [Int.mul_add, Int.mul_one] at this
  exact this
theorem val_inj {sz : Int} (hs : 1 ≤ sz) : ∀ {ds es : List Int}, ds.length = es.length → okD sz ds → okD sz es → valD sz ds = valD sz es → ds = es
  | [], [], _, _, _, _ => rfl
  | [], e :: es, h, _, _, _ => by simp at h
  | d :: ds, [], h, _, _, _ => by simp at h
  | d :: ds, e :: es, h, h1, h2, hv => by
    have k1 := okD_cons.1 h1
    have k2 := okD_cons.1 h2
    rw [valD, valD] at hv
    have hlt : ¬ valD sz ds < valD sz es := fun hl => by have := mul_step hs hl; omega
    have hgt : ¬ valD sz es < valD sz ds := fun hl => by have := mul_step hs hl; omega
    have he : valD sz ds = valD sz es := by omega
    rw [he] at hv
    have hd : d = e := by omega
    rw [hd, val_inj hs (by simpa using h) k1.2 k2.2 he]
theorem inc_some {sz : Int} (hs : 1 ≤ sz) : ∀ {ds es : List Int}, okD sz ds → incD sz ds = some es → okD sz es ∧ es.length = ds.length ∧ valD sz es = valD sz ds + 1
  | [], es, h, he => by simp [incD] at he
  | d :: ds, es, h, he => by
    have k := okD_cons.1 h
    rw [incD] at he
    split at he
    · simp only [Option.some.injEq] at he
      subst he
      exact ⟨okD_cons.2 ⟨⟨by omega, by assumption⟩, k.2⟩, by simp, by rw [valD, valD]; omega⟩
    · obtain ⟨es', h1, rfl⟩ := Option.map_eq_some_iff.1 he
      obtain ⟨h2, h3, h4⟩ := inc_some hs k.2 h1
      refine ⟨okD_cons.2 ⟨⟨by omega, by omega⟩, h2⟩, by simp [h3], ?_⟩
      rw [valD, valD, h4, Int.mul_add, Int.mul_one]
      have : d = sz - 1 := by omega
      omega
theorem inc_none {sz : Int} (hs : 1 ≤ sz) : ∀ {ds es : List Int}, okD sz ds → incD sz ds = none → es.length = ds.length → okD sz es → valD sz es ≤ valD sz ds
  | [], es, h, _, hl, _ => by
    have : es = [] := List.length_eq_zero_iff.1 hl
    subst this; exact Int.le_refl _
  | d :: ds, [], h, _, hl, _ => by simp at hl
  | d :: ds, e :: es, h, hn, hl, he => by
    have k := okD_cons.1 h
    have k2 := okD_cons.1 he
    rw [incD] at hn
    split at hn
    · cases hn
    · have hn' : incD sz ds = none := by
        cases hi : incD sz ds with
        | none => rfl
        | some x => rw [hi] at hn; cases hn
      have ih := inc_none hs k.2 hn' (by simpa using hl) k2.2
      have := Int.mul_le_mul_of_nonneg_left ih (show (0 : Int) ≤ sz by omega)
      rw [valD, valD]; omega
theorem val_zero (sz : Int) : ∀ (n : Nat), valD sz (List.replicate n 0) = 0
  | 0 => rfl
  | n + 1 => by rw [List.replicate_succ, valD, val_zero sz n]; simp
theorem ok_zero {sz : Int} (hs : 1 ≤ sz) (n : Nat) : okD sz (List.replicate n 0) := fun d hd => by
  rw [(List.mem_replicate.1 hd).2]; omega
theorem val_max {sz : Int} (hs : 1 ≤ sz) {ds : List Int} (h : okD sz ds) : valD sz ds ≤ valD sz (List.replicate ds.length (sz - 1)) := by
  induction ds with
  | nil => exact Int.le_refl _
  | cons d ds ih =>
    have k := okD_cons.1 h
    have := Int.mul_le_mul_of_nonneg_left (ih k.2) (show (0 : Int) ≤ sz by omega)
    rw [List.length_cons, List.replicate_succ, valD, valD]; omega
/-! ### What stands for variables, as a row of things -/
def envOf (vs ds : List Int) : List Int := (List.range 24).map fun (v : Nat) => if (v : Int) ∈ vs then gi ds (vs.idxOf (v : Int)) else 0
theorem envOf_len (vs ds : List Int) : (envOf vs ds).length = 24 := by simp [envOf]
theorem envOf_at (vs ds : List Int) {v : Nat} (hv : v < 24) : gi (envOf vs ds) v = if (v : Int) ∈ vs then gi ds (vs.idxOf (v : Int)) else 0 := by
  simp [gi, envOf, hv]
theorem envOf_V (vs ds : List Int) {c : Int} (h : c < 0) (h24 : -24 ≤ c) : gi (envOf vs ds) (-1 - c).toNat = envV vs ds c := by
  rw [envOf_at _ _ (by omega)]
  have e : (((-1 - c).toNat : Nat) : Int) = -1 - c := by omega
  rw [e]; rfl
theorem gi_set (l : List Int) (i j : Nat) (x : Int) (hi : i < l.length) : gi (l.set i x) j = if i = j then x else gi l j := by
  unfold gi
  rw [List.getD_eq_getElem?_getD, List.getD_eq_getElem?_getD, List.getElem?_set]
  split
  · rename_i h; subst h; simp [hi]
  · rfl
theorem env_set {vs ds : List Int} (hv : vs.Nodup) (hl : ds.length = vs.length) {i : Nat} (hi : i < vs.length) (h0 : 0 ≤ vs[i]) (h24 : vs[i] < 24) (x : Int) : (envOf vs ds).set vs[i].toNat x = envOf vs (ds.set i x) := by
  refine List.ext_getElem (by simp [envOf]) (fun n h1 h2 => ?_)
  have hn : n < 24 := by simpa [envOf] using h1
  rw [List.getElem_set]
  have hidx : vs.idxOf vs[i] = i := hv.idxOf_getElem i hi
  by_cases e : vs[i].toNat = n
  · rw [if_pos e]
    have en : (n : Int) = vs[i] := by omega
    simp only [envOf, List.getElem_map, List.getElem_range]
    rw [en, if_pos (List.getElem_mem hi), hidx, gi_set _ _ _ _ (by omega), if_pos rfl]
  · rw [if_neg e]
    simp only [envOf, List.getElem_map, List.getElem_range]
    by_cases hm : (n : Int) ∈ vs
    · rw [if_pos hm, if_pos hm, gi_set _ _ _ _ (by omega), if_neg (fun e2 => e (by
        have h3 := List.getElem_idxOf (x := (n : Int)) (xs := vs) (List.idxOf_lt_length_of_mem hm)
        have h4 : vs[i] = (n : Int) := by
          rw [← h3]; congr 1
        omega))]
    · rw [if_neg hm, if_neg hm]
theorem env_get {vs ds : List Int} (hv : vs.Nodup) {i : Nat} (hi : i < vs.length) (h0 : 0 ≤ vs[i]) (h24 : vs[i] < 24) : gi (envOf vs ds) vs[i].toNat = gi ds i := by
  rw [envOf_at _ _ (by omega)]
  have e : ((vs[i].toNat : Nat) : Int) = vs[i] := by omega
  rw [e, if_pos (List.getElem_mem hi), hv.idxOf_getElem i hi]
/-- The next things. -/
def nextF (sz : Int) : List Int → List Int → List Int × Bool
  | [], env => (env, false)
  | v :: vs, env => if gi env v.toNat + 1 < sz then (env.set v.toNat (gi env v.toNat + 1), true) else nextF sz vs ((env.set v.toNat (gi env v.toNat + 1)).set v.toNat 0)
theorem next_env {sz : Int} {vs : List Int} (hv : vs.Nodup) (hr : ∀ v ∈ vs, 0 ≤ v ∧ v < 24) : ∀ (suf dsuf : List Int) (i : Nat), vs.drop i = suf → i + suf.length = vs.length → dsuf.length = suf.length →
    nextF sz suf (envOf vs (List.replicate i 0 ++ dsuf)) = (match incD sz dsuf with | some d => (envOf vs (List.replicate i 0 ++ d), true) | none => (envOf vs (List.replicate vs.length 0), false))
  | [], dsuf, i, h1, h2, h3 => by
    have : dsuf = [] := List.length_eq_zero_iff.1 h3
    subst this
    simp only [List.length_nil, Nat.add_zero] at h2
    rw [nextF, incD, List.append_nil, h2]
  | v :: suf, [], i, h1, h2, h3 => by simp at h3
  | v :: suf, d :: dsuf, i, h1, h2, h3 => by
    simp only [List.length_cons] at h2 h3
    have hi : i < vs.length := by omega
    have hvi : vs[i] = v := by
      have := List.drop_eq_getElem_cons hi
      rw [h1] at this
      exact (List.cons.inj this).1.symm
    have hsuf : vs.drop (i + 1) = suf := by
      have := List.drop_eq_getElem_cons hi
      rw [h1] at this
      exact (List.cons.inj this).2.symm
    have hb := hr v (hvi ▸ List.getElem_mem hi)
    have hlen : (List.replicate i (0 : Int) ++ d :: dsuf).length = vs.length := by simp; omega
    have hg : gi (envOf vs (List.replicate i 0 ++ d :: dsuf)) v.toNat = d := by
      have := env_get (ds := List.replicate i 0 ++ d :: dsuf) hv hi (by rw [hvi]; exact hb.1) (by rw [hvi]; exact hb.2)
      rw [hvi] at this
      rw [this]
      simp [gi]
    have hset : ∀ x, (envOf vs (List.replicate i 0 ++ d :: dsuf)).set v.toNat x = envOf vs (List.replicate i 0 ++ x :: dsuf) := fun x => by
      have := env_set (ds := List.replicate i 0 ++ d :: dsuf) hv hlen hi (by rw [hvi]; exact hb.1) (by rw [hvi]; exact hb.2) x
      rw [hvi] at this
      rw [this]
      congr 1
      rw [List.set_append_right _ _ (by simp)]
      simp
    rw [nextF, hg, incD]
    split
    · rw [hset]
    · rw [List.set_set, hset]
      have ih := next_env hv hr suf dsuf (i + 1) hsuf (by omega) (by omega) (sz := sz)
      have e1 : List.replicate i (0 : Int) ++ 0 :: dsuf = List.replicate (i + 1) 0 ++ dsuf := by
        rw [List.replicate_succ', List.append_assoc]; rfl
      rw [e1, ih]
      cases incD sz dsuf with
      | none => rfl
      | some x =>
        dsimp only [Option.map]
        have e2 : List.replicate (i + 1) (0 : Int) ++ x = List.replicate i 0 ++ 0 :: x := by
          rw [List.replicate_succ', List.append_assoc]; rfl
        rw [e2]
theorem next_all {sz : Int} {vs ds : List Int} (hv : vs.Nodup) (hr : ∀ v ∈ vs, 0 ≤ v ∧ v < 24) (hl : ds.length = vs.length) : nextF sz vs (envOf vs ds) = (match incD sz ds with | some d => (envOf vs d, true) | none => (envOf vs (List.replicate vs.length 0), false)) := by
  have := next_env (sz := sz) hv hr vs ds 0 rfl (by simp) hl
  simpa using this
theorem envOf_zero (vs : List Int) (n : Nat) : envOf vs (List.replicate n 0) = List.replicate 24 0 := by
  refine List.ext_getElem (by simp [envOf]) (fun i h1 h2 => ?_)
  simp only [envOf, List.getElem_map, List.getElem_range, List.getElem_replicate]
  split
  · unfold gi
    rw [List.getD_eq_getElem?_getD, List.getElem?_replicate]
    split <;> rfl
  · rfl
/-! ### What says as much holds as far -/
end Go.Qu

/- Structures of a few things: clauses in them. For every input; no condition. -/
set_option linter.unusedVariables false
set_option linter.unusedSimpArgs false
set_option maxRecDepth 100000
namespace Go.Proofs.YtjhganbjbiihoaaDoor.Ab
open Go Go.Ab Go.Qu Go.Proofs
attribute [local simp] and_assoc
abbrev hM (g : List Sym) (sz : Int) (ns : List Int) (c : CC) (env : Int → Int) : Bool := hereH g (tvM sz ns) (pvM ns) (qvM ns) c env
def atQ {α : Type} (p : α → Bool) (l : List α) (j : Nat) : Bool := match l[j]? with | some x => p x | none => false
theorem atQ_at {α : Type} {p : α → Bool} {l : List α} {j : Nat} {x : α} (h : l[j]? = some x) : atQ p l j = p x := by unfold atQ; rw [h]
theorem atQ_any {α : Type} {p : α → Bool} {l : List α} {j : Nat} (hj : j < l.length) (h : atQ p l j = true) : l.any p = true := by
  obtain ⟨x, hx⟩ := at_lt hj
  rw [atQ_at hx] at h
  exact List.any_eq_true.2 ⟨x, List.mem_of_getElem? hx, h⟩
theorem atQ_none {α : Type} {p : α → Bool} {l : List α} (h : ∀ j, 0 ≤ j → j < l.length → atQ p l j = false) : l.any p = false := by
  rw [List.any_eq_false]
  intro x hx
  obtain ⟨j, hj, rfl⟩ := List.getElem_of_mem hx
  have := h j (Nat.zero_le _) hj
  rw [atQ_at (List.getElem?_eq_getElem hj)] at this
  simpa using this
theorem cl_cs {g : List Sym} {c : Cl} (h : clB g c = true) {l : LitR} (hl : l ∈ c.cs) : atomB g l.r.l = true := by
  rw [clB_c] at h
  exact (clOk.1 h).ca l.c (by simp only [Cl.c]; exact List.mem_map_of_mem hl)
theorem cl_ls {g : List Sym} {c : Cl} (h : clB g c = true) {l : LitR} (hl : l ∈ c.ls) : atomB g l.r.l = true := by
  rw [clB_c] at h
  exact (clOk.1 h).la l.c (by simp only [Cl.c]; exact List.mem_map_of_mem hl)
theorem cl_ts {g : List Sym} {c : Cl} (h : clB g c = true) {r : Row} (hr : r ∈ c.ts) : rowB g r.l = true := by
  rw [clB_c] at h
  obtain ⟨k, hk⟩ := (clOk.1 h).tr
  exact (hk r.l (by simp only [Cl.c]; exact List.mem_map_of_mem hr)).1
section
variable {g : List Sym} (hg : SigOk g) {sz : Int} (hs : 1 ≤ sz) (z zn ze : Bool) {ns : List Int} (hns : Len ns) (e en ee : List D) {env : List Int} (he : env.length = 24)
include hg hs hns he
theorem w_here {c : Cl} (hc : clB g c = true) : C 59 [iM sz zn ns en, iG z g e, iC c, iS ze env ee] = some (iB (hM g sz ns c.c (envF env)), [iM sz zn ns en, iG z g e, iC c, iS ze env ee]) := by
  have hk := clOk.1 ((clB_c g c).symm.trans hc)
  have n1 : c.ls.length ≤ 5 := by have := hk.l5; simpa [Cl.c] using this
  have n2 : c.ts.length ≤ 3 := by have := hk.t3; simpa [Cl.c] using this
  have n3 : c.cs.length ≤ 3 := by have := hk.c3; simpa [Cl.c] using this
  have hcl := fun (l : LitR) (hl : atomB g l.r.l = true) => w_mlit hg hs z zn ze hns e en ee he (l := l) hl
  have hct := fun (r : Row) (hr : rowB g r.l = true) => w_mtuple hg hs z zn ze hns e en ee he (r := r) hr
  refine wfn (lk := []) rfl rfl (fnW_way (q59 _ _ sz zn (ints ns) en z (syms g) e c.lz (lits c.ls) c.le c.tz (rws c.ts) c.te c.cz (lits c.cs) c.ce ze (ints env) ee _) ?_)
  have L0 := blk_find (F := F) (d := d59) (lk := []) (p := [1,0,1,0,0]) (p0 := [1,0,1]) (by kernel_rfl) (n := c.cs.length) (id := 0) (st := fun i => [(1, iG z g e), (3, iS ze env ee), (4, bMd sz zn ns en), (6, bC c), (9, iI i)]) (q := atQ (fun l : LitR => !litH g (tvM sz ns) (pvM ns) (envF env) l.c) c.cs) (rt := fun _ => [(8, iB true)]) (e := [(1, iG z g e), (3, iS ze env ee), (4, bMd sz zn ns en), (6, bC c), (9, iI c.cs.length)])
    (fun i hi hq => by
      obtain ⟨l, hl⟩ := at_lt hi
      rw [atQ_at hl] at hq
      have h1 := hcl l (cl_cs hc (List.mem_of_getElem? hl))
      have hq' : litH g (tvM sz ns) (pvM ns) (envF env) l.c = true := by simpa using hq
      rw [hq'] at h1
      refine wpQ_way (q59_l0a _ _ z (syms g) e ze (ints env) ee sz zn (ints ns) en c.lz (lits c.ls) c.le c.tz (rws c.ts) c.te c.cz (lits c.cs) c.ce i _) ?_
      refine condW_t (by rw [lits_len]; exact decide_eq_true (by omega)) (condW_t (by simp) ⟨_, _, _, _, lits_at hl, _, _, _, _, _, h1, condW_t rfl ?_⟩)
      rw [wr1 hi (by omega)])
    (fun i hi hq => by
      obtain ⟨l, hl⟩ := at_lt hi
      rw [atQ_at hl] at hq
      have h1 := hcl l (cl_cs hc (List.mem_of_getElem? hl))
      have hq' : litH g (tvM sz ns) (pvM ns) (envF env) l.c = false := by simpa using hq
      rw [hq'] at h1
      refine wpQ_way (q59_l0a _ _ z (syms g) e ze (ints env) ee sz zn (ints ns) en c.lz (lits c.ls) c.le c.tz (rws c.ts) c.te c.cz (lits c.cs) c.ce i _) ?_
      exact condW_t (by rw [lits_len]; exact decide_eq_true (by omega)) (condW_t (by simp) ⟨_, _, _, _, lits_at hl, _, _, _, _, _, h1, condW_f rfl rfl⟩))
    (wpQ_way (q59_l0a _ _ z (syms g) e ze (ints env) ee sz zn (ints ns) en c.lz (lits c.ls) c.le c.tz (rws c.ts) c.te c.cz (lits c.cs) c.ce c.cs.length _) (condW_f (by rw [lits_len]; simp) rfl)) 0 (Nat.zero_le _)
  have L2 := blk_find (F := F) (d := d59) (lk := []) (p := [1,1,0,1,0,0]) (p0 := [1,1,0,1]) (by kernel_rfl) (n := c.ls.length) (id := 2) (st := fun i => [(1, iG z g e), (3, iS ze env ee), (4, bMd sz zn ns en), (6, bC c), (10, iI i)]) (q := atQ (fun l : LitR => litH g (tvM sz ns) (pvM ns) (envF env) l.c) c.ls) (rt := fun _ => [(8, iB true)]) (e := [(1, iG z g e), (3, iS ze env ee), (4, bMd sz zn ns en), (6, bC c), (10, iI c.ls.length)])
    (fun i hi hq => by
      obtain ⟨l, hl⟩ := at_lt hi
      rw [atQ_at hl] at hq
      have h1 := hcl l (cl_ls hc (List.mem_of_getElem? hl))
      have hq' : litH g (tvM sz ns) (pvM ns) (envF env) l.c = false := hq
      rw [hq'] at h1
      refine wpQ_way (q59_l2b _ _ z (syms g) e ze (ints env) ee sz zn (ints ns) en c.lz (lits c.ls) c.le c.tz (rws c.ts) c.te c.cz (lits c.cs) c.ce i _) ?_
      refine condW_t (by rw [lits_len]; exact decide_eq_true (by omega)) (condW_t (by simp) ⟨_, _, _, _, lits_at hl, _, _, _, _, _, h1, condW_f rfl ?_⟩)
      rw [wr1 hi (by omega)])
    (fun i hi hq => by
      obtain ⟨l, hl⟩ := at_lt hi
      rw [atQ_at hl] at hq
      have h1 := hcl l (cl_ls hc (List.mem_of_getElem? hl))
      have hq' : litH g (tvM sz ns) (pvM ns) (envF env) l.c = true := hq
      rw [hq'] at h1
      refine wpQ_way (q59_l2b _ _ z (syms g) e ze (ints env) ee sz zn (ints ns) en c.lz (lits c.ls) c.le c.tz (rws c.ts) c.te c.cz (lits c.cs) c.ce i _) ?_
      exact condW_t (by rw [lits_len]; exact decide_eq_true (by omega)) (condW_t (by simp) ⟨_, _, _, _, lits_at hl, _, _, _, _, _, h1, condW_t rfl rfl⟩))
    (wpQ_way (q59_l2b _ _ z (syms g) e ze (ints env) ee sz zn (ints ns) en c.lz (lits c.ls) c.le c.tz (rws c.ts) c.te c.cz (lits c.cs) c.ce c.ls.length _) (condW_f (by rw [lits_len]; simp) rfl)) 0 (Nat.zero_le _)
  have L4 := blk_find (F := F) (d := d59) (lk := []) (p := [1,1,1,0,1,0,0]) (p0 := [1,1,1,0,1]) (by kernel_rfl) (n := c.ts.length) (id := 4) (st := fun i => [(1, iG z g e), (3, iS ze env ee), (4, bMd sz zn ns en), (6, bC c), (11, iI i)]) (q := atQ (fun r : Row => tupH g (tvM sz ns) (qvM ns) (envF env) r.l) c.ts) (rt := fun _ => [(8, iB true)]) (e := [(1, iG z g e), (3, iS ze env ee), (4, bMd sz zn ns en), (6, bC c), (11, iI c.ts.length)])
    (fun i hi hq => by
      obtain ⟨r, hr⟩ := at_lt hi
      rw [atQ_at hr] at hq
      have h1 := hct r (cl_ts hc (List.mem_of_getElem? hr))
      have hq' : tupH g (tvM sz ns) (qvM ns) (envF env) r.l = false := hq
      rw [hq'] at h1
      refine wpQ_way (q59_l4b _ _ z (syms g) e ze (ints env) ee sz zn (ints ns) en c.lz (lits c.ls) c.le c.tz (rws c.ts) c.te c.cz (lits c.cs) c.ce i _) ?_
      refine condW_t (by rw [rws_len]; exact decide_eq_true (by omega)) (condW_t (by simp) ⟨_, _, _, rws_at hr, _, _, _, _, _, h1, condW_f rfl ?_⟩)
      rw [wr1 hi (by omega)])
    (fun i hi hq => by
      obtain ⟨r, hr⟩ := at_lt hi
      rw [atQ_at hr] at hq
      have h1 := hct r (cl_ts hc (List.mem_of_getElem? hr))
      have hq' : tupH g (tvM sz ns) (qvM ns) (envF env) r.l = true := hq
      rw [hq'] at h1
      refine wpQ_way (q59_l4b _ _ z (syms g) e ze (ints env) ee sz zn (ints ns) en c.lz (lits c.ls) c.le c.tz (rws c.ts) c.te c.cz (lits c.cs) c.ce i _) ?_
      exact condW_t (by rw [rws_len]; exact decide_eq_true (by omega)) (condW_t (by simp) ⟨_, _, _, rws_at hr, _, _, _, _, _, h1, condW_t rfl rfl⟩))
    (wpQ_way (q59_l4b _ _ z (syms g) e ze (ints env) ee sz zn (ints ns) en c.lz (lits c.ls) c.le c.tz (rws c.ts) c.te c.cz (lits c.cs) c.ce c.ts.length _) (condW_f (by rw [rws_len]; simp) rfl)) 0 (Nat.zero_le _)
  have hH : hM g sz ns c.c (envF env) = (c.cs.any (fun l => !litH g (tvM sz ns) (pvM ns) (envF env) l.c) || (c.ls.any (fun l => litH g (tvM sz ns) (pvM ns) (envF env) l.c) || c.ts.any (fun r => tupH g (tvM sz ns) (qvM ns) (envF env) r.l))) := by
    unfold hM hereH Cl.c
    simp only [List.any_map]; rfl
  rw [hH]
  rcases L0 with ⟨a1, a2⟩ | ⟨j, a1, a2, a3, _, a4⟩
  rotate_left
  · rw [atQ_any a2 a3]
    exact .inl ⟨_, a4, rfl⟩
  rw [atQ_none a1, Bool.false_or]
  refine .inr ⟨_, _, _, _, _, _, _, _, _, _, _, _, _, _, _, _, _, _, _, _, a2, ?_⟩
  rcases L2 with ⟨b1, b2⟩ | ⟨j, b1, b2, b3, _, b4⟩
  rotate_left
  · rw [atQ_any b2 b3]
    exact .inl ⟨_, b4, rfl⟩
  rw [atQ_none b1, Bool.false_or]
  refine .inr ⟨_, _, _, _, _, _, _, _, _, _, _, _, _, _, _, _, _, _, _, _, b2, ?_⟩
  rcases L4 with ⟨d1, d2⟩ | ⟨j, d1, d2, d3, _, d4⟩
  rotate_left
  · rw [atQ_any d2 d3]
    exact .inl ⟨_, d4, rfl⟩
  rw [atQ_none d1]
  exact .inr ⟨_, _, _, _, _, _, _, _, _, _, _, _, _, _, _, _, _, _, _, _, d2, rfl⟩
end
end Go.Proofs.YtjhganbjbiihoaaDoor.Ab

/- Structures of a few things: whether a clause holds in them, whatever stands for its variables. For every input; no condition. -/
set_option linter.unusedVariables false
set_option linter.unusedSimpArgs false
set_option maxRecDepth 100000
namespace Go.Proofs.YtjhganbjbiihoaaDoor.Ab
open Go Go.Ab Go.Qu Go.Proofs
attribute [local simp] and_assoc
/-- Things, as they stand for variables. -/
structure EnvOk (sz : Int) (env : List Int) : Prop where
  len : env.length = 24
  rng : ∀ j, j < 24 → 0 ≤ gi env j ∧ gi env j < sz
theorem ints_set (l : List Int) (i : Nat) (x : Int) : (ints l).set i (.int .i64 x) = ints (l.set i x) := by simp [ints, List.map_set]
theorem w_mnext {sz : Int} (hs : 1 ≤ sz ∧ sz ≤ 3) (zn : Bool) (ns : List Int) (en : List D) (zE zV : Bool) {vs : List Int} (hv : ∀ v ∈ vs, 0 ≤ v ∧ v < 24) (hvl : vs.length ≤ 1000) {env : List Int} (he : EnvOk sz env) : C 60 [iM sz zn ns en, .lrow zE 3 1 (ints env), .lrow zV 3 1 (ints vs)] = some (iB (nextF sz vs env).2, [iM sz zn ns en, .own zE 3 1 (ints (nextF sz vs env).1), .own zV 3 1 (ints vs)]) := by
  refine wfn (lk := [1, 2]) rfl rfl (fnW_way (q60 _ _ sz zn (ints ns) en zE (ints env) zV (ints vs) _) ?_)
  have h1 := fun x hx => blk_fun (F := F) (d := d60) (lk := [1, 2]) (p := [1,0,1,0,0]) (p0 := [1,0,1]) (id := 0) (by kernel_rfl) (st := fun (x : List Int × Nat) => [(1, .own zE 3 1 (ints x.1)), (2, .own zV 3 1 (ints vs)), (3, bMd sz zn ns en), (7, iI x.2)]) (I := fun x => EnvOk sz x.1 ∧ x.2 ≤ vs.length) (μ := fun x => vs.length - x.2)
    (res := fun x => if (nextF sz (vs.drop x.2) x.1).2 = true then .ret [(1, .own zE 3 1 (ints (nextF sz (vs.drop x.2) x.1).1)), (2, .own zV 3 1 (ints vs)), (6, iB true)] else .norm [(1, .own zE 3 1 (ints (nextF sz (vs.drop x.2) x.1).1)), (2, .own zV 3 1 (ints vs)), (3, bMd sz zn ns en), (7, iI vs.length)])
    (fun x hx => by
      obtain ⟨env, i⟩ := x
      obtain ⟨hx1, hx2⟩ := hx
      dsimp only at hx1 hx2
      by_cases hi : i < vs.length
      rotate_left
      · have e0 : i = vs.length := by omega
        subst e0
        refine .stop (.exit 0 [(1, .own zE 3 1 (ints env)), (2, .own zV 3 1 (ints vs)), (3, bMd sz zn ns en), (7, iI vs.length)]) (wpQ_way (q60_l0a _ _ zE (ints env) zV (ints vs) sz zn (ints ns) en vs.length _) (condW_f (by rw [ints_len]; simp) rfl)) rfl ?_
        rw [List.drop_length]; rfl
      obtain ⟨v, hvv⟩ : ∃ v, v = gi vs i := ⟨_, rfl⟩
      have hvr := hv (gi vs i) (gi_mem hi)
      have hvi := Go.Ab.ints_at hi
      rw [← hvv] at hvr hvi
      obtain ⟨m, hm⟩ : ∃ m : Nat, v = m := ⟨v.toNat, by omega⟩
      subst hm
      have hm24 : m < 24 := by omega
      have hge := hx1.rng m hm24
      have hem : m < env.length := by rw [hx1.len]; exact hm24
      have hei := Go.Ab.ints_at hem
      have hw : IntKind.wrap .i64 (gi env m + 1) = gi env m + 1 := wr _ (by omega) (by omega)
      have hset := ints_set env m (gi env m + 1)
      have hem2 : m < (env.set m (gi env m + 1)).length := by simpa using hem
      have hei2 := Go.Ab.ints_at hem2
      have hg2 : gi (env.set m (gi env m + 1)) m = gi env m + 1 := by rw [gi_set _ _ _ _ hem, if_pos rfl]
      rw [hg2] at hei2
      have hd := gi_drop hi
      rw [← hvv] at hd
      have b1 : decide ((i : Int) < ((ints vs).length : Int)) = true := by rw [ints_len]; exact decide_eq_true (by omega)
      have b2 : decide ((0 : Int) ≤ (i : Int)) = true := by simp
      have b3 : decide ((0 : Int) ≤ (m : Int)) = true := by simp
      by_cases hlt : gi env m + 1 < sz
      · refine .stop (.ret [(1, .own zE 3 1 (ints (env.set m (gi env m + 1)))), (2, .own zV 3 1 (ints vs)), (6, iB true)]) (wpQ_way (q60_l0a _ _ zE (ints env) zV (ints vs) sz zn (ints ns) en i _) ?_) rfl ?_
        · refine condW_t b1 (condW_t b2 ⟨_, hvi, _, hvi, condW_t b3 ⟨_, hei, _, hei, condW_t b3 ⟨_, hei, _, hei, condW_t b2 ⟨_, hvi, _, hvi, condW_t b3 ?_⟩⟩⟩⟩)
          rw [Int.toNat_natCast, hw, hset]
          exact ⟨_, hei2, _, hei2, condW_t (decide_eq_true hlt) rfl⟩
        · have e1 : nextF sz (vs.drop i) env = (env.set m (gi env m + 1), true) := by
            rw [hd, nextF, Int.toNat_natCast, if_pos hlt]
          rw [e1]; rfl
      · refine .go ((env.set m (gi env m + 1)).set m 0, i + 1) (wpQ_way (q60_l0a _ _ zE (ints env) zV (ints vs) sz zn (ints ns) en i _) ?_) ⟨⟨by simpa using hx1.len, fun j hj => ?_⟩, hi⟩ (by dsimp only; omega) ?_
        · refine condW_t b1 (condW_t b2 ⟨_, hvi, _, hvi, condW_t b3 ⟨_, hei, _, hei, condW_t b3 ⟨_, hei, _, hei, condW_t b2 ⟨_, hvi, _, hvi, condW_t b3 ?_⟩⟩⟩⟩)
          rw [Int.toNat_natCast, hw, hset]
          refine ⟨_, hei2, _, hei2, condW_f (decide_eq_false hlt) (condW_t b2 ⟨_, hvi, _, hvi, condW_t b3 ⟨_, hei2, _, hei2, ?_⟩⟩)⟩
          rw [ints_set, wr1 hi (by omega)]; rfl
        · dsimp only
          rw [gi_set _ _ _ _ hem2, gi_set _ _ _ _ hem]
          split
          · omega
          · exact hx1.rng j hj
        · have e1 : nextF sz (vs.drop i) env = nextF sz (vs.drop (i + 1)) ((env.set m (gi env m + 1)).set m 0) := by
            rw [hd, nextF, Int.toNat_natCast, if_neg hlt]
          dsimp only
          rw [e1]) x hx
  have h2 := h1 (env, 0) ⟨he, Nat.zero_le _⟩
  dsimp only at h2
  rw [List.drop_zero] at h2
  cases hb : (nextF sz vs env).2 with
  | true =>
    rw [if_pos hb] at h2
    exact .inl ⟨_, _, _, _, _, h2, rfl⟩
  | false =>
    rw [if_neg (by simp [hb])] at h2
    exact .inr ⟨_, _, _, _, _, _, _, _, _, h2, rfl⟩
theorem w_rvo {g : List Sym} {c : Cl} (hc : clB g c = true) : C 37 [iC c] = some (.own (varsC c.c.rows).isEmpty 3 1 (ints (varsC c.c.rows)), [iC c]) := by
  have hk := clOk.1 ((clB_c g c).symm.trans hc)
  have n1 : c.ls.length ≤ 5 := by have := hk.l5; simpa [Cl.c] using this
  have n2 : c.ts.length ≤ 3 := by have := hk.t3; simpa [Cl.c] using this
  have n3 : c.cs.length ≤ 3 := by have := hk.c3; simpa [Cl.c] using this
  have hrr : (rowsOf c).map (·.l) = c.c.rows := by
    simp [rowsOf, CC.rows, Cl.c, List.map_append, List.map_map, Function.comp_def, LitR.c]
  have hnr : (rowsOf c).length ≤ 11 := by simp [rowsOf]; omega
  have h49 : ∀ r ∈ rowsOf c, r.l.length ≤ 49 := fun r hr => by
    have hm : r.l ∈ c.c.rows := by rw [← hrr]; exact List.mem_map_of_mem hr
    simp only [CC.rows, List.mem_append, List.mem_map] at hm
    rcases hm with (⟨l, hl, e⟩ | hm) | ⟨l, hl, e⟩
    · have := (atom_codes (hk.la l hl)).1; rw [e] at this; exact this
    · obtain ⟨k, hk2⟩ := hk.tr
      have := rowB_len (hk2 _ hm).1; omega
    · have := (atom_codes (hk.ca l hl)).1; rw [e] at this; exact this
  have hfl : ∀ (rs : List Row), (∀ r ∈ rs, r.l.length ≤ 49) → (rs.flatMap (·.l)).length ≤ 49 * rs.length := by
    intro rs
    induction rs with
    | nil => intro _; simp
    | cons r rs ih =>
      intro h
      have h1 := h r (by simp)
      have h2 := ih (fun x hx => h x (by simp [hx]))
      rw [List.flatMap_cons, List.length_append, List.length_cons]; omega
  refine wfn (lk := []) rfl rfl (fnW_way (q37 _ _ c.lz (lits c.ls) c.le c.tz (rws c.ts) c.te c.cz (lits c.cs) c.ce _) ?_)
  refine ⟨_, _, _, w_rrows (c := c) (by omega) (by omega) (by omega), ?_⟩
  have h1 := fun x hx => blk_fun (F := F) (d := d37) (lk := []) (p := [1,1,1,0,1,0,0]) (p0 := [1,1,1,0,1]) (id := 0) (by kernel_rfl) (st := fun (x : List Int × Nat) => [(3, .own x.1.isEmpty 3 1 (ints x.1)), (4, .own (rowsOf c).isEmpty 33 1 (rws (rowsOf c))), (5, iI x.2)]) (I := fun x => x.2 ≤ (rowsOf c).length ∧ x.1.length ≤ 49 * x.2 ∧ x.1 ++ ((rowsOf c).drop x.2).flatMap (·.l) = (rowsOf c).flatMap (·.l)) (μ := fun x => (rowsOf c).length - x.2)
    (res := fun x => .norm [(3, .own ((rowsOf c).flatMap (·.l)).isEmpty 3 1 (ints ((rowsOf c).flatMap (·.l)))), (4, .own (rowsOf c).isEmpty 33 1 (rws (rowsOf c))), (5, iI (rowsOf c).length)])
    (fun x hx => by
      obtain ⟨acc, i⟩ := x
      obtain ⟨x1, x2, x3⟩ := hx
      dsimp only at x1 x2 x3
      by_cases hi : i < (rowsOf c).length
      · obtain ⟨r, hr⟩ := at_lt hi
        have hd : (rowsOf c).drop i = r :: (rowsOf c).drop (i + 1) := by
          rw [List.drop_eq_getElem_cons hi]
          rw [List.getElem?_eq_getElem hi] at hr
          cases hr; rfl
        have hrl := h49 r (List.mem_of_getElem? hr)
        rw [hd, List.flatMap_cons] at x3
        refine .go (acc ++ r.l, i + 1) (wpQ_way (q37_l0a _ _ acc.isEmpty (ints acc) (rowsOf c).isEmpty (rws (rowsOf c)) i _) ?_) ⟨hi, by simp; omega, by dsimp only; rw [List.append_assoc]; exact x3⟩ (by dsimp only; omega) rfl
        refine condW_t (by rw [rws_len]; exact decide_eq_true (by omega)) (condW_t (by simp) ⟨_, rws_at hr, _, _, _, rws_at hr, condW_t (by rw [ints_len, ints_len]; exact decide_eq_true (by omega)) (condW_t (by rw [ints_len, ints_len]; exact decide_eq_true (by omega)) ?_)⟩)
        rw [wr1 hi (by omega)]
        dsimp only
        rw [ints_append]
        have hem : (acc ++ r.l).isEmpty = (acc.isEmpty && (ints r.l).isEmpty) := by
          cases acc <;> cases r.l <;> simp [ints]
        rw [hem]
      · have e0 : i = (rowsOf c).length := by omega
        subst e0
        refine .stop (.exit 0 [(3, .own acc.isEmpty 3 1 (ints acc)), (4, .own (rowsOf c).isEmpty 33 1 (rws (rowsOf c))), (5, iI (rowsOf c).length)]) (wpQ_way (q37_l0a _ _ acc.isEmpty (ints acc) (rowsOf c).isEmpty (rws (rowsOf c)) (rowsOf c).length _) (condW_f (by rw [rws_len]; simp) rfl)) rfl ?_
        rw [List.drop_length, List.flatMap_nil, List.append_nil] at x3
        rw [x3]; rfl) x hx
  have h2 := h1 ([], 0) ⟨Nat.zero_le _, by simp, rfl⟩
  dsimp only at h2
  have hff : (rowsOf c).flatMap (·.l) = c.c.rows.flatten := by rw [← hrr, List.flatMap_def]
  have hvc : varsC c.c.rows = varsM c.c.rows.flatten := vars_flat (fun r hr x hx => (cl_codes hk r hr x hx).1)
  have hl := hfl (rowsOf c) h49
  have h3 := w_varsof (a := (rowsOf c).flatMap (·.l)) (by unfold Len; omega) ((rowsOf c).flatMap (·.l)).isEmpty []
  rw [hvc, ← hff]
  exact ⟨_, _, _, _, _, h2, _, _, _, h3, rfl⟩
theorem w_env : C 58 [] = some (.own false 3 1 (ints (List.replicate 24 0)), []) := wfn (lk := []) rfl rfl (fnW_way (q58 _ _ _) rfl)
theorem w_few {vs : List Int} (z : Bool) (e : List D) : C 27 [iS z vs e] = some (iB (decide (vs.length ≤ 6)), [iS z vs e]) := by
  refine wfn (lk := []) rfl rfl (fnW_way (q27 _ _ z (ints vs) e _) ?_)
  rw [ints_len]
  by_cases h : vs.length ≤ 6
  · rw [decide_eq_true h]; exact condW_t (decide_eq_true (by omega)) rfl
  · rw [decide_eq_false h]; exact condW_f (decide_eq_false (by omega)) rfl
/-- How many things there are. -/
def sizeM (i : Int) : Int := 1 + Int.tmod (IntKind.wrap .u64 i) 3
theorem size_in (i : Int) : 1 ≤ sizeM i ∧ sizeM i ≤ 3 := by
  unfold sizeM
  have h0 := (u64_ge i).1
  have h1 := Int.tmod_nonneg 3 h0
  have h2 := Int.tmod_lt_of_pos (IntKind.wrap .u64 i) (show (0 : Int) < 3 by omega)
  omega
theorem w_new (i : Int) (zn : Bool) (ns : List Int) (en : List D) : C 28 [iI i, iS zn ns en] = some (iM (sizeM i) zn ns en, [iI i, iS zn ns en]) := by
  refine wfn (lk := []) rfl rfl (fnW_way (q28 _ _ i zn (ints ns) en _) ?_)
  have h := size_in i
  have h0 := (u64_ge i).1
  have h1 := Int.tmod_nonneg 3 h0
  have h2 := Int.tmod_lt_of_pos (IntKind.wrap .u64 i) (show (0 : Int) < 3 by omega)
  have e1 : IntKind.wrap .i64 (1 + IntKind.wrap .i64 (Int.tmod (IntKind.wrap .u64 i) 3)) = sizeM i := by
    rw [wr (Int.tmod (IntKind.wrap .u64 i) 3) (by omega) (by omega)]
    exact wr _ (by unfold sizeM at h; omega) (by unfold sizeM at h; omega)
  rw [e1]
section
variable {g : List Sym} (hg : SigOk g) {sz : Int} (hs : 1 ≤ sz ∧ sz ≤ 3) (z zn : Bool) {ns : List Int} (hns : Len ns) (e en : List D)
include hg hs hns
/-- Does it hold, whatever stands for its variables? -/
def holdsM (g : List Sym) (sz : Int) (ns : List Int) (c : CC) : Prop := holdsP sz (varsC c.rows) (hM g sz ns c)
theorem w_mclause {c : Cl} (hc : clB g c = true) : ∃ b : Bool, (b = true ↔ holdsM g sz ns c.c) ∧ C 29 [iM sz zn ns en, iG z g e, iC c] = some (iB b, [iM sz zn ns en, iG z g e, iC c]) := by
  have hk := clOk.1 ((clB_c g c).symm.trans hc)
  have hcod := cl_codes hk
  obtain ⟨vs, hvs⟩ : ∃ vs, vs = varsC c.c.rows := ⟨_, rfl⟩
  have hvr : ∀ v ∈ vs, 0 ≤ v ∧ v < 24 := fun v hv => by
    rw [hvs] at hv
    obtain ⟨h0, r, hr, hx⟩ := vars_mem.1 hv
    have := (hcod r hr _ hx).1
    omega
  have hnd : vs.Nodup := by
    rw [hvs, vars_flat (fun r hr x hx => (hcod r hr x hx).1)]
    exact up_nodup up_varsFrom
  have hvl : vs.length ≤ 24 := by
    rw [hvs, vars_flat (fun r hr x hx => (hcod r hr x hx).1)]
    have : ∀ (k v : Nat), (varsFrom c.c.rows.flatten k v).length ≤ k := by
      intro k
      induction k with
      | zero => intro v; simp [varsFrom]
      | succ k ih =>
        intro v
        have := ih (v + 1)
        rw [varsFrom]
        split <;> simp <;> omega
    exact this 24 0
  have hhere : ∀ ds : List Int, hM g sz ns c.c (envF (envOf vs ds)) = hM g sz ns c.c (envV vs ds) := fun ds => here_ext (fun r hr x hx h0 => by
    unfold envF
    exact envOf_V vs ds h0 (hcod r hr x hx).1)
  have henv : ∀ ds : List Int, ds.length = vs.length → okD sz ds → EnvOk sz (envOf vs ds) := fun ds hl ho => ⟨envOf_len vs ds, fun j hj => by
    rw [envOf_at _ _ hj]
    split
    · rename_i hm
      have hi := List.idxOf_lt_length_of_mem hm
      have : gi ds (vs.idxOf (j : Int)) = ds[vs.idxOf (j : Int)]'(by omega) := by simp [gi, show vs.idxOf (j : Int) < ds.length by omega]
      rw [this]
      exact ho _ (List.getElem_mem _)
    · omega⟩
  have hloop := blk_rule (F := F) (d := d29) (lk := []) (p := [1,1,1,0,0]) (p0 := [1,1,1]) 0 (by kernel_rfl) (fun (ds : List Int) => [(1, iG z g e), (3, bMd sz zn ns en), (5, bC c), (7, .own vs.isEmpty 3 1 (ints vs)), (8, .own false 3 1 (ints (envOf vs ds)))])
    (fun ds => ds.length = vs.length ∧ okD sz ds) (fun ds => (valD sz (List.replicate vs.length (sz - 1)) - valD sz ds).toNat)
    (fun ds o => ∃ b : Bool, o = .ret [(6, iB b)] ∧ (b = true ↔ ∀ es : List Int, es.length = vs.length → okD sz es → valD sz ds ≤ valD sz es → hM g sz ns c.c (envV vs es) = true))
    (fun ds hx => by
      obtain ⟨hl, ho⟩ := hx
      have h1 := w_here hg hs.1 z zn false hns e en [] (envOf_len vs ds) hc
      rw [hhere ds] at h1
      have h2 := w_mnext hs zn ns en false vs.isEmpty hvr (by omega) (henv ds hl ho)
      rw [next_all hnd hvr hl] at h2
      cases hh : hM g sz ns c.c (envV vs ds) with
      | false =>
        rw [hh] at h1
        refine .inr ⟨.ret [(6, iB false)], wpQ_way (q29_l0a _ _ z (syms g) e sz zn (ints ns) en c.lz (lits c.ls) c.le c.tz (rws c.ts) c.te c.cz (lits c.cs) c.ce vs.isEmpty (ints vs) false (ints (envOf vs ds)) _) ⟨_, _, _, _, _, h1, condW_f rfl rfl⟩, rfl, false, rfl, ?_⟩
        constructor
        · intro hf; cases hf
        · intro hall
          have := hall ds hl ho (Int.le_refl _)
          rw [hh] at this; exact this
      | true =>
        rw [hh] at h1
        cases hi : incD sz ds with
        | some ds' =>
          rw [hi] at h2
          obtain ⟨k1, k2, k3⟩ := inc_some hs.1 ho hi
          have hmx := val_max hs.1 k1
          rw [k2, hl] at hmx
          refine .inl ⟨ds', wpQ_way (q29_l0a _ _ z (syms g) e sz zn (ints ns) en c.lz (lits c.ls) c.le c.tz (rws c.ts) c.te c.cz (lits c.cs) c.ce vs.isEmpty (ints vs) false (ints (envOf vs ds)) _) ⟨_, _, _, _, _, h1, condW_t rfl ⟨_, _, _, _, _, _, h2, condW_t rfl rfl⟩⟩, ⟨by omega, k1⟩, by omega, fun o ⟨b, ho1, ho2⟩ => ⟨b, ho1, ho2.trans ?_⟩⟩
          constructor
          · intro hall es e1 e2 e3
            by_cases hq : valD sz ds' ≤ valD sz es
            · exact hall es e1 e2 hq
            · have : ds = es := val_inj hs.1 (by omega) ho e2 (by omega)
              subst this; exact hh
          · intro hall es e1 e2 e3
            exact hall es e1 e2 (by omega)
        | none =>
          rw [hi] at h2
          refine .inr ⟨.ret [(6, iB true)], wpQ_way (q29_l0a _ _ z (syms g) e sz zn (ints ns) en c.lz (lits c.ls) c.le c.tz (rws c.ts) c.te c.cz (lits c.cs) c.ce vs.isEmpty (ints vs) false (ints (envOf vs ds)) _) ⟨_, _, _, _, _, h1, condW_t rfl ⟨_, _, _, _, _, _, h2, condW_f rfl rfl⟩⟩, rfl, true, rfl, ?_⟩
          constructor
          · intro _ es e1 e2 e3
            have hle := inc_none hs.1 ho hi (by omega) e2
            have : ds = es := val_inj hs.1 (by omega) ho e2 (by omega)
            subst this; exact hh
          · intro _; rfl) (List.replicate vs.length 0) ⟨by simp, ok_zero hs.1 _⟩
  obtain ⟨o, h1, b, rfl, hb⟩ := hloop
  rw [envOf_zero] at h1
  refine ⟨b, ?_, wfn (lk := []) rfl rfl (fnW_way (q29 _ _ sz zn (ints ns) en z (syms g) e c.lz (lits c.ls) c.le c.tz (rws c.ts) c.te c.cz (lits c.cs) c.ce _) ?_)⟩
  · rw [hb]
    unfold holdsM holdsP
    rw [← hvs]
    constructor
    · intro h es e1 e2
      exact h es e1 e2 (by rw [val_zero]; exact val_ge hs.1 e2)
    · intro h es e1 e2 _
      exact h es e1 e2
  · have h3 := w_rvo hc
    rw [← hvs] at h3
    exact ⟨_, _, _, h3, _, _, w_env, _, h1, rfl⟩
end
end Go.Proofs.YtjhganbjbiihoaaDoor.Ab

/- Which term is more: where it is put in, with terms put in, through a third one. Plain lists; no condition. -/
set_option linter.unusedVariables false
set_option linter.unusedSimpArgs false
namespace Go.Qu
open Go Go.Ab

/-- How often a code stands. -/
def occ (a : List Int) (v : Nat) : Nat := a.count (-1 - (v : Int))
def covB (a b : List Int) : Bool := (List.range 24).all fun v => decide (occ b v ≤ occ a v)
/-- The terms of codes, as far as there are any. -/
def pcs (g : List Sym) (r : List Int) : List (List Int) :=
  if hr : r = [] then [] else match h : lenN g r 1 with
    | none => []
    | some k => r.take k :: pcs g (r.drop k)
termination_by r.length
decreasing_by
  have := lenN_le h
  have : r.length ≠ 0 := fun e => hr (List.length_eq_zero_iff.1 e)
  simp; omega
theorem pcs_nil (g : List Sym) : pcs g [] = [] := by rw [pcs]; simp
theorem pcs_some {g : List Sym} {r : List Int} {k : Nat} (hr : r ≠ []) (h : lenN g r 1 = some k) : pcs g r = r.take k :: pcs g (r.drop k) := by
  rw [pcs]; rw [dif_neg hr]; split
  · rename_i hk; rw [h] at hk; cases hk
  · rename_i k' hk; rw [h] at hk; cases hk; rfl
theorem pcs_parts {g : List Sym} : ∀ (n : Nat) {r : List Int} {ts : List (List Int)}, r.length ≤ n → parts g r = some ts → pcs g r = ts
  | n, r, ts, hn, h => by
    rcases parts_cases h with ⟨rfl, rfl⟩ | ⟨k, us, h1, h2, rfl, h3⟩
    · exact pcs_nil g
    · have h4 := lenN_le h1
      cases n with
      | zero => exact absurd (List.length_eq_zero_iff.1 (by omega)) h3
      | succ n =>
        rw [pcs_some h3 h1, pcs_parts n (by simp; omega) h2]
def unlF : List (List Int) → List (List Int) → Option (List Int × List Int)
  | x :: xs, y :: ys => if x = y then unlF xs ys else some (x, y)
  | _, _ => none
/-- The same, said once. -/
inductive More (g : List Sym) : List Int → List Int → Prop
  | sum {a b : List Int} : covB a b = true → sumW g b < sumW g a → More g a b
  | head {a b : List Int} : covB a b = true → sumW g a = sumW g b → gi b 0 < gi a 0 → More g a b
  | arg {a b x y : List Int} : covB a b = true → sumW g a = sumW g b → gi a 0 = gi b 0 → unlF (pcs g a.tail) (pcs g b.tail) = some (x, y) → More g x y → More g a b
/-! ### With terms put in -/
/-- A row of one term. -/
abbrev One (g : List Sym) (t : List Int) : Prop := lenN g t 1 = some t.length
/-- Rows of so many terms: pieces of one. -/
theorem pcs_row {g : List Sym} : ∀ {n : Nat} {r : List Int}, lenN g r n = some r.length → (∀ x ∈ pcs g r, One g x) ∧ (pcs g r).flatten = r ∧ (pcs g r).length = n
  | 0, r, h => by
    have : r = [] := by cases r <;> simp [lenN] at h <;> first | rfl | skip
    subst this
    simp [pcs_nil]
  | n + 1, r, h => by
    obtain ⟨k1, k2, h1, h2, h3⟩ := lenN_first h
    have hk := lenN_le h1
    have hr : r ≠ [] := fun e => by subst e; simp at hk; omega
    have ih := pcs_row (n := n) (r := r.drop k1) (by rw [h2]; simp; omega)
    rw [pcs_some hr h1]
    have ht : One g (r.take k1) := by
      have := lenN_take h1
      unfold One; rw [this]; simp; omega
    refine ⟨fun x hx => ?_, ?_, by simp [ih.2.2]⟩
    · rcases List.mem_cons.1 hx with rfl | hx
      · exact ht
      · exact ih.1 x hx
    · rw [List.flatten_cons, ih.2.1, List.take_append_drop]
theorem pcs_flat {g : List Sym} : ∀ {ts : List (List Int)}, (∀ x ∈ ts, One g x) → pcs g ts.flatten = ts
  | [], _ => pcs_nil g
  | t :: ts, h => by
    have h1 := h t (by simp)
    have h2 := lenN_le h1
    have h3 := lenN_app ts.flatten h1
    have hne : t ++ ts.flatten ≠ [] := fun e => by
      have := congrArg List.length e
      simp at this
      have : t.length = 0 := by rw [this.1]; rfl
      omega
    rw [List.flatten_cons, pcs_some hne h3, List.take_left, List.drop_left, pcs_flat (fun x hx => h x (List.mem_cons_of_mem _ hx))]
/-! ### Within a term -/
end Go.Qu

/- The terms of a row: what the program's function hands back. For every input; no condition. -/
set_option linter.unusedVariables false
set_option linter.unusedSimpArgs false
set_option maxRecDepth 100000
namespace Go.Proofs.YtjhganbjbiihoaaDoor.Ab
open Go Go.Ab Go.Qu Go.Proofs
attribute [local simp] and_assoc
def pcR (z : Bool) (ts : List (List Int)) : List Row := ts.map fun t => ⟨z, t, []⟩
theorem pcR_len (z : Bool) (ts : List (List Int)) : (pcR z ts).length = ts.length := by simp [pcR]
theorem l_pieces {g : List Sym} (hg : SigOk g) (z z' : Bool) (e e' : List D) {r : List Int} (hr : r.length ≤ 1000) (x : List (List Int) × Nat)
    (hx : x.2 ≤ r.length ∧ x.1.length ≤ x.2 ∧ (∃ m, lenN g (r.drop x.2) m = some (r.length - x.2)) ∧ x.1 ++ pcs g (r.drop x.2) = pcs g r) :
    evP F (Go.Ab.W F) (JW F d68 []) d68 [] [1,1,0,1] [(0, iG z g e), (1, iS z' r e'), (5, .own x.1.isEmpty 33 1 (rws (pcR z' x.1))), (6, iI x.2)] = some (.norm [(0, iG z g e), (1, iS z' r e'), (5, .own (pcs g r).isEmpty 33 1 (rws (pcR z' (pcs g r)))), (6, iI r.length)]) :=
  blk_fun (F := F) (d := d68) (lk := []) (p := [1,1,0,1,0,0]) (p0 := [1,1,0,1]) (id := 0) (by kernel_rfl) (st := fun (x : List (List Int) × Nat) => [(0, iG z g e), (1, iS z' r e'), (5, .own x.1.isEmpty 33 1 (rws (pcR z' x.1))), (6, iI x.2)]) (I := fun x => x.2 ≤ r.length ∧ x.1.length ≤ x.2 ∧ (∃ m, lenN g (r.drop x.2) m = some (r.length - x.2)) ∧ x.1 ++ pcs g (r.drop x.2) = pcs g r) (μ := fun x => r.length - x.2)
    (res := fun _ => .norm [(0, iG z g e), (1, iS z' r e'), (5, .own (pcs g r).isEmpty 33 1 (rws (pcR z' (pcs g r)))), (6, iI r.length)])
    (fun x hx => by
      obtain ⟨out, i⟩ := x
      obtain ⟨h1, h2, ⟨m, h3⟩, h4⟩ := hx
      dsimp only at h1 h2 h3 h4
      by_cases hi : i < r.length
      rotate_left
      · have e0 : i = r.length := by omega
        subst e0
        refine .stop (.exit 0 [(0, iG z g e), (1, iS z' r e'), (5, .own out.isEmpty 33 1 (rws (pcR z' out))), (6, iI r.length)]) (wpQ_way (q68_l0a _ _ z (syms g) e z' (ints r) e' out.isEmpty (rws (pcR z' out)) r.length _) (by simp [ints_len])) rfl ?_
        rw [List.drop_length, pcs_nil, List.append_nil] at h4
        rw [h4]; rfl
      have hi' : (i : Int) < r.length := by omega
      have hm : m ≠ 0 := fun e0 => by
        subst e0
        have : lenN g (r.drop i) 0 = some 0 := by cases r.drop i <;> rfl
        rw [this] at h3
        simp at h3; omega
      obtain ⟨m, rfl⟩ : ∃ m', m = m' + 1 := ⟨m - 1, by omega⟩
      obtain ⟨k1, k2, h5, h6, h7⟩ := lenN_first h3
      have hle := lenN_le h5
      simp only [List.length_drop] at hle
      have hsk := w_skip hg z z' e e' (r := r) (by omega) i
      rw [skB, skV, h5] at hsk
      have hne : r.drop i ≠ [] := by simp; omega
      rw [pcs_some hne h5, List.drop_drop] at h4
      have hpc : List.drop i (tkX (i + k1) (ints r) e') = ints ((r.drop i).take k1) := by
        rw [tkX_ints (by omega), ints_drop, List.drop_take, Nat.add_sub_cancel_left]
      have hk1 : (i : Int) ≤ ((i + k1 : Nat) : Int) := by omega
      have hk2 : ((i + k1 : Nat) : Int) ≤ ((r.length + e'.length : Nat) : Int) := by omega
      have hk3 : ((i + k1 : Nat) : Int) ≤ (r.length : Int) + (e'.length : Int) := by omega
      have hl1 : (rws (pcR z' out)).length = out.length := by rw [rws_len, pcR_len]
      have hb1 : out.length + 1 ≤ 9223372036854775807 := by omega
      have hb2 : (out.length + 1) * 24 ≤ 140737488355328 := by omega
      refine .go (out ++ [(r.drop i).take k1], i + k1) (wpQ_way (q68_l0a _ _ z (syms g) e z' (ints r) e' out.isEmpty (rws (pcR z' out)) i _) ?_) ⟨by dsimp only; omega, by simp; omega, ⟨m, by dsimp only; rw [← List.drop_drop, h6]; congr 1; omega⟩, by dsimp only; rw [List.append_assoc]; exact h4⟩ (by dsimp only; omega) rfl
      have hrw : rws (pcR z' (out ++ [(r.drop i).take k1])) = rws (pcR z' out) ++ [.sl 1 z' (ints ((r.drop i).take k1)) []] := by simp [pcR, rws, Row.d]
      have hem : (out ++ [(r.drop i).take k1]).isEmpty = false := by simp
      dsimp only
      rw [hrw, hem]
      simp [-Bool.exists_bool, -getElem?_pos, -Int.natCast_add, -List.length_take, -List.length_drop, hi', ints_len, hsk, hpc, hk1, hk2, hk3, hl1, hb1, hb2]) x hx
theorem w_pieces {g : List Sym} (hg : SigOk g) (z z' : Bool) (e e' : List D) {r : List Int} (hr : r.length ≤ 1000) {n : Nat} (h : lenN g r n = some r.length) :
    C 68 [iG z g e, iS z' r e'] = some (.own (pcs g r).isEmpty 33 1 (rws (pcR z' (pcs g r))), [iG z g e, iS z' r e']) := by
  refine wfn (lk := []) rfl rfl (fnW_way (q68 _ _ z (syms g) e z' (ints r) e' _) ?_)
  have h1 := l_pieces hg z z' e e' hr ([], 0) ⟨Nat.zero_le _, Nat.zero_le _, ⟨n, by simpa using h⟩, rfl⟩
  exact .inr ⟨_, _, _, _, _, _, _, _, _, h1, rfl⟩
end Go.Proofs.YtjhganbjbiihoaaDoor.Ab

/- Binds: what they make of rows; two lists of binds as one. Plain lists, no program in sight; no condition. -/
set_option linter.unusedVariables false
set_option linter.unusedSimpArgs false
namespace Go.Qu
open Go Go.Ab
structure Bd where
  v : Int
  r : Row
def Bd.d (b : Bd) : D := .agg [.int .i64 b.v, .sl 1 b.r.z (ints b.r.l) b.r.e]
/-! ### What may be -/
/-! ### What stands for a variable -/
/-! ### One after the other -/
end Go.Qu

/- Where an equation holds, what is rewritten by it means the same; where a unit holds, its opposites mean nothing. Plain lists; no condition. -/
set_option linter.unusedVariables false
set_option linter.unusedSimpArgs false
namespace Go.Qu
open Go Go.Ab
theorem eq_sides {g : List Sym} {r : List Int} (h : atomB g (0 :: r) = true) : ∃ a b, r = a ++ b ∧ One g a ∧ One g b := by
  simp only [atomB] at h
  split at h
  · cases h
  split at h
  · cases h
  rename_i s hs
  simp only [Bool.and_eq_true] at h
  obtain ⟨⟨_, h2⟩, h3⟩ := h
  have har : s.ar = 2 := by
    unfold sigB at h2
    have hs' : g[0]? = some s := hs
    rw [hs'] at h2
    simp only [Bool.and_eq_true] at h2
    have := h2.1.2
    unfold eqSym at this
    simp only [Bool.and_eq_true] at this
    simpa using this.2.2.1
  unfold rowP at h3
  by_cases hr : r.length ≤ 48
  · rw [if_pos hr] at h3
    cases hps : parts g r with
    | none => rw [hps] at h3; cases h3
    | some ts =>
      rw [hps, har] at h3
      have hl : ts.length = 2 := by
        have : ((ts.length : Int) == 2) = true := h3
        simp at this
        omega
      have hn := parts_all _ (Nat.le_refl _) hps
      rw [hl] at hn
      obtain ⟨k1, k2, k3⟩ := pcs_row hn
      match hp : pcs g r, k3 with
      | [a, b], _ =>
        rw [hp] at k1 k2
        exact ⟨a, b, by simpa using k2.symm, k1 a (by simp), k1 b (by simp)⟩
  · rw [if_neg hr] at h3; cases h3
end Go.Qu

/- Clauses that say nothing: what the program's functions hand back. For every input; no condition. -/
set_option linter.unusedVariables false
set_option linter.unusedSimpArgs false
set_option maxRecDepth 100000
namespace Go.Proofs.YtjhganbjbiihoaaDoor.Ab
open Go Go.Ab Go.Qu Go.Proofs
attribute [local simp] and_assoc
theorem w_odd {l m : LitR} (hl : Len l.r.l) : C 40 [iLit m.neg m.r.z m.r.l m.r.e, pL l] = some (iB (oddB l.c m.c), [iLit m.neg m.r.z m.r.l m.r.e, pL l]) := by
  refine wfn (lk := []) rfl rfl (fnW_way (q40 _ _ m.neg m.r.z (ints m.r.l) m.r.e l.neg l.r.z (ints l.r.l) l.r.e _) ?_)
  have h1 := w_equal hl m.r.l l.r.z m.r.z l.r.e m.r.e
  obtain ⟨b1, ⟨lz, ll, le⟩⟩ := l
  obtain ⟨b2, ⟨mz, ml, me⟩⟩ := m
  dsimp only at h1
  have h2 : oddB (LitR.c ⟨b1, ⟨lz, ll, le⟩⟩) (LitR.c ⟨b2, ⟨mz, ml, me⟩⟩) = ((b1 != b2) && decide (ll = ml)) := rfl
  rw [h2]
  cases b1 <;> cases b2
  · exact condW_f rfl (condW_f rfl (by simp))
  · refine condW_f rfl (condW_t rfl ⟨_, _, _, h1, ?_⟩)
    cases decide (ll = ml)
    · exact condW_f rfl (by simp)
    · exact condW_t rfl (by simp)
  · refine condW_t rfl (condW_f rfl ⟨_, _, _, h1, ?_⟩)
    cases decide (ll = ml)
    · exact condW_f rfl (by simp)
    · exact condW_t rfl (by simp)
  · exact condW_t rfl (condW_t rfl (by simp))
theorem w_idxodd {l : LitR} (hl : Len l.r.l) {ls : List LitR} (hn : ls.length ≤ 1000) (z : Bool) (e : List D) : C 69 [iL z ls e, .fn 40 [pL l]] = some (iI (idxQ (fun m => oddB l.c m.c) ls), [iL z ls e, .fn 40 [pL l]]) := by
  refine wfn (lk := [1]) rfl rfl (fnW_way (q69 _ _ z (lits ls) e l.neg l.r.z (ints l.r.l) l.r.e _) ?_)
  have hl := blk_find (F := F) (d := d69) (lk := [1]) (p := [1,0,1,0,0]) (p0 := [1,0,1]) (by kernel_rfl) (n := ls.length) (id := 0) (st := fun i => [(0, iL z ls e), (1, .fn 40 [pL l]), (7, iI ls.length), (8, iI i)]) (q := fun i => match ls[i]? with | some m => oddB l.c m.c | none => false) (rt := fun i => [(1, .fn 40 [pL l]), (4, iI i)]) (e := [(0, iL z ls e), (1, .fn 40 [pL l]), (7, iI ls.length), (8, iI ls.length)])
    (fun i hi hq => by
      refine wpQ_way (q69_l0a _ _ z (lits ls) e l.neg l.r.z (ints l.r.l) l.r.e _ i _) ?_
      obtain ⟨m, hm⟩ := at_lt hi
      have h1 := w_odd (l := l) (m := m) hl
      rw [hm] at hq
      dsimp only at hq
      rw [hq] at h1
      simp [-Bool.exists_bool, -getElem?_pos, -Int.natCast_add, wr1 hi (by omega), hi, lits_at hm, h1])
    (fun i hi hq => by
      refine wpQ_way (q69_l0a _ _ z (lits ls) e l.neg l.r.z (ints l.r.l) l.r.e _ i _) ?_
      obtain ⟨m, hm⟩ := at_lt hi
      have h1 := w_odd (l := l) (m := m) hl
      rw [hm] at hq
      dsimp only at hq
      rw [hq] at h1
      simp [-Bool.exists_bool, -getElem?_pos, -Int.natCast_add, wr1 hi (by omega), hi, lits_at hm, h1])
    (wpQ_way (q69_l0a _ _ z (lits ls) e l.neg l.r.z (ints l.r.l) l.r.e _ ls.length _) (by simp)) 0 (Nat.zero_le _)
  rcases hl with ⟨h2, h3⟩ | ⟨j, h1, h2, h4, h5, h3⟩
  · rw [idxQ_none (fun k hk t ht => by have := h2 k (Nat.zero_le _) hk; rw [ht] at this; exact this)]
    rw [lits_len]
    exact .inr (.inl ⟨_, _, _, _, _, _, _, _, _, h3, rfl⟩)
  · rw [idxQ_some h2 (by have := h4; rw [List.getElem?_eq_getElem h2] at this; exact this) (fun k hk t ht => by have := h5 k (Nat.zero_le _) hk; rw [ht] at this; exact this)]
    rw [lits_len]
    exact .inl ⟨_, _, _, _, _, h3, rfl⟩
theorem w_hasodd {l : LitR} (hl : Len l.r.l) {ls : List LitR} (hn : ls.length ≤ 1000) (z : Bool) (e : List D) : C 39 [iL z ls e, .fn 40 [pL l]] = some (iB ((ls.map LitR.c).any (oddB l.c)), [iL z ls e, .fn 40 [pL l]]) := by
  refine wfn (lk := [1]) rfl rfl (fnW_way (q39 _ _ z (lits ls) e l.neg l.r.z (ints l.r.l) l.r.e _) ?_)
  have h1 := w_idxodd hl hn z e
  have h2 := idxQ_any (fun m => oddB l.c m.c) ls
  have h3 : (ls.map LitR.c).any (oddB l.c) = ls.any fun m => oddB l.c m.c := by rw [List.any_map]; rfl
  rw [h3, ← h2]
  by_cases h : 0 ≤ idxQ (fun m => oddB l.c m.c) ls
  · exact .inl ⟨_, _, _, h1, condW_t (decide_eq_true h) (by rw [decide_eq_true h])⟩
  · exact .inl ⟨_, _, _, h1, condW_f (decide_eq_false h) (by rw [decide_eq_false h])⟩
theorem w_selfsame {g : List Sym} (z : Bool) (e : List D) {l : LitR} (ha : atomB g l.r.l = true) : C 38 [iG z g e, iLit l.neg l.r.z l.r.l l.r.e] = some (iB (selfB g l.c), [iG z g e, iLit l.neg l.r.z l.r.l l.r.e]) := by
  refine wfn (lk := []) rfl rfl (fnW_way (q38 _ _ z (syms g) e l.neg l.r.z (ints l.r.l) l.r.e _) ?_)
  have hg := sigOk (atom_sig ha)
  obtain ⟨neg, ⟨rz, rl, re⟩⟩ := l
  dsimp only at ha ⊢
  cases rl with
  | nil => simp [atomB] at ha
  | cons p r =>
  have hrow := (atom_row ha).2
  have hr48 := (rowB_parts hrow).2.1
  cases neg with
  | true => exact condW_t rfl rfl
  | false =>
  refine condW_f rfl ⟨p, rfl, ?_⟩
  by_cases hp : p = 0
  rotate_left
  · refine condW_t (by simpa using hp) ?_
    have : selfB g (LitR.c ⟨false, ⟨rz, p :: r, re⟩⟩) = false := by
      have h0 : (gi (p :: r) 0 == 0) = false := by simpa [gi] using hp
      simp only [selfB, LitR.c]
      rw [h0]; rfl
    rw [this]
  subst hp
  refine condW_f rfl (condW_t (by rw [ints_len]; simp; omega) ?_)
  obtain ⟨a, b, rfl, ha1, hb1⟩ := eq_sides ha
  have hla := lenN_le ha1
  have hlb := lenN_le hb1
  have hn : lenN g (a ++ b) 2 = some (a ++ b).length := by
    have k1 := lenN_split (r := a ++ b) (n := 1) 1 (lenN_app b ha1)
    rw [List.drop_left, hb1] at k1
    rw [show (2 : Nat) = 1 + 1 from rfl, k1]; simp
  have hpc : pcs g (a ++ b) = [a, b] := by
    have := pcs_flat (g := g) (ts := [a, b]) (fun x hx => by
      simp at hx
      rcases hx with rfl | rfl
      · exact ha1
      · exact hb1)
    simpa using this
  have hs := w_pieces hg z rz e [] (r := a ++ b) (by omega) hn
  rw [hpc] at hs
  have hd : List.drop (Int.toNat 1) (ints (0 :: (a ++ b))) = ints (a ++ b) := rfl
  rw [hd]
  rw [List.length_append] at hr48
  have he := w_equal (a := a) (by unfold Len; omega) b rz rz [] []
  have hsf : selfB g (LitR.c ⟨false, ⟨rz, 0 :: (a ++ b), re⟩⟩) = decide (a = b) := by
    obtain ⟨_, _, ts, hts, _⟩ := rowB_parts hrow
    have h5 := pcs_parts _ (Nat.le_refl _) hts
    rw [hpc] at h5
    subst h5
    simp only [selfB, LitR.c, List.tail_cons, hts]
    simp [gi]
  rw [hsf]
  refine ⟨_, _, _, _, hs, _, rfl, _, _, _, rfl, _, rfl, _, _, _, rfl, _, _, _, he, ?_⟩
  cases decide (a = b)
  · exact condW_f rfl rfl
  · exact condW_t rfl rfl
theorem w_trivial (z : Bool) (g : List Sym) (e : List D) (c : Cl) : C 14 [iG z g e, iC c] = some (.tup [iB (clB g c && trivB g c.c.ls), iI (if clB g c = true then 0 else 800)], [iG z g e, iC c]) := by
  refine wfn (lk := []) rfl rfl (fnW_way (q14 _ _ z (syms g) e c.lz (lits c.ls) c.le c.tz (rws c.ts) c.te c.cz (lits c.cs) c.ce _) ?_)
  have h1 := w_clmay z g e c
  refine ⟨_, _, _, h1, ?_⟩
  cases hc : clB g c with
  | false => exact condW_f rfl rfl
  | true =>
  have hk := clOk.1 ((clB_c g c).symm.trans hc)
  have hl5 : c.ls.length ≤ 5 := by have := hk.l5; simpa [Cl.c] using this
  have hla : ∀ l ∈ c.ls, atomB g l.r.l = true := fun l hl => hk.la l.c (by simp [Cl.c]; exact ⟨l, hl, rfl⟩)
  refine condW_t rfl ?_
  rw [lits_len]
  obtain ⟨q, hq⟩ : ∃ q : LitR → Bool, q = fun l => selfB g l.c || (c.ls.map LitR.c).any (oddB l.c) := ⟨_, rfl⟩
  have htq : trivB g c.c.ls = c.ls.any q := by
    have : c.c.ls = c.ls.map LitR.c := rfl
    rw [this, trivB, List.any_map, hq]
    rfl
  have hl := blk_find (F := F) (d := d14) (lk := []) (p := [1,1,0,1,0,0]) (p0 := [1,1,0,1]) (by kernel_rfl) (n := c.ls.length) (id := 0) (st := fun i => [(0, iG z g e), (3, .dbox 26 0 [.sl 2 c.lz (lits c.ls) c.le, .sl 1 c.tz (rws c.ts) c.te, .sl 2 c.cz (lits c.cs) c.ce]), (13, iL c.lz c.ls c.le), (14, iI c.ls.length), (15, iI i)]) (q := fun i => match c.ls[i]? with | some l => q l | none => false) (rt := fun i => [(4, iB true), (5, iI 0)]) (e := [(0, iG z g e), (3, .dbox 26 0 [.sl 2 c.lz (lits c.ls) c.le, .sl 1 c.tz (rws c.ts) c.te, .sl 2 c.cz (lits c.cs) c.ce]), (13, iL c.lz c.ls c.le), (14, iI c.ls.length), (15, iI c.ls.length)])
    (fun i hi hqi => by
      refine wpQ_way (q14_l0a _ _ z (syms g) e c.lz (lits c.ls) c.le c.tz (rws c.ts) c.te c.cz (lits c.cs) c.ce c.lz (lits c.ls) c.le c.ls.length i _) ?_
      obtain ⟨l, hl⟩ := at_lt hi
      rw [hl] at hqi
      dsimp only at hqi
      rw [hq] at hqi
      dsimp only at hqi
      rw [Bool.or_eq_false_iff] at hqi
      have ha := hla l (List.mem_of_getElem? hl)
      have hlen := (atom_codes ha).1
      have k1 := w_selfsame z e ha
      have k2 := w_hasodd (l := l) (by unfold Len; omega) (ls := c.ls) (by omega) c.lz c.le
      rw [hqi.1] at k1
      rw [hqi.2] at k2
      refine condW_t (decide_eq_true (by omega)) (condW_t (decide_eq_true (by omega)) ⟨_, _, _, _, lits_at hl, _, _, _, k1, condW_f rfl (.inl ⟨_, _, _, k2, condW_f rfl ?_⟩)⟩)
      rw [wr1 hi (by omega)])
    (fun i hi hqi => by
      refine wpQ_way (q14_l0a _ _ z (syms g) e c.lz (lits c.ls) c.le c.tz (rws c.ts) c.te c.cz (lits c.cs) c.ce c.lz (lits c.ls) c.le c.ls.length i _) ?_
      obtain ⟨l, hl⟩ := at_lt hi
      rw [hl] at hqi
      dsimp only at hqi
      rw [hq] at hqi
      dsimp only at hqi
      have ha := hla l (List.mem_of_getElem? hl)
      have hlen := (atom_codes ha).1
      have k1 := w_selfsame z e ha
      have k2 := w_hasodd (l := l) (by unfold Len; omega) (ls := c.ls) (by omega) c.lz c.le
      refine condW_t (decide_eq_true (by omega)) (condW_t (decide_eq_true (by omega)) ⟨_, _, _, _, lits_at hl, _, _, _, k1, ?_⟩)
      cases hsf : selfB g l.c with
      | true => exact condW_t rfl rfl
      | false =>
        rw [hsf, Bool.false_or] at hqi
        rw [hqi] at k2
        exact condW_f rfl (.inl ⟨_, _, _, k2, condW_t rfl rfl⟩))
    (wpQ_way (q14_l0a _ _ z (syms g) e c.lz (lits c.ls) c.le c.tz (rws c.ts) c.te c.cz (lits c.cs) c.ce c.lz (lits c.ls) c.le c.ls.length c.ls.length _) (condW_f (decide_eq_false (by omega)) rfl)) 0 (Nat.zero_le _)
  rw [htq]
  rcases hl with ⟨h2, h3⟩ | ⟨j, _, h2, h4, _, h3⟩
  · have hno : c.ls.any q = false := by
      rw [List.any_eq_false]
      intro l hl2
      obtain ⟨i, hi⟩ := List.getElem?_of_mem hl2
      have := h2 i (Nat.zero_le _) (lt_at hi)
      rw [hi] at this
      simpa using this
    rw [hno]
    exact .inr ⟨_, _, _, _, _, _, _, _, _, _, _, _, _, _, _, _, _, h3, rfl⟩
  · have hyes : c.ls.any q = true := by
      obtain ⟨l, hl2⟩ := at_lt h2
      rw [hl2] at h4
      exact List.any_eq_true.2 ⟨l, List.mem_of_getElem? hl2, h4⟩
    rw [hyes]
    exact .inl ⟨_, _, h3, rfl⟩
end Go.Proofs.YtjhganbjbiihoaaDoor.Ab
