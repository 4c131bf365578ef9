/- Chapter 8's law ClauseFull: for every input the law returns true. No condition. -/
import Derived.Test.YtjhganbjbiihoaaDoorClauseFull0
import Derived.Test.YtjhganbjbiihoaaDoorClauseFull1
import Derived.Test.YtjhganbjbiihoaaDoorClauseFull2
import Derived.Test.YtjhganbjbiihoaaDoorClauseFull3
import Derived.Test.YtjhganbjbiihoaaDoorClauseFull4
import Derived.Test.YtjhganbjbiihoaaDoorClauseFull5
import Derived.Test.YtjhganbjbiihoaaDoorClauseFull6
import Derived.Test.YtjhganbjbiihoaaDoorClauseFull7
import Derived.Test.YtjhganbjbiihoaaDoorClauseFull8
import Derived.Test.YtjhganbjbiihoaaDoorClauseFull9
import Derived.Test.YtjhganbjbiihoaaDoorClauseFull10
import Derived.Test.YtjhganbjbiihoaaDoorClauseFull11
import Derived.Test.YtjhganbjbiihoaaDoorClauseFull12
import Derived.Test.YtjhganbjbiihoaaDoorClauseFull13
import Derived.Test.YtjhganbjbiihoaaDoorClauseFull14
import Derived.Test.YtjhganbjbiihoaaDoorClauseFull15
import Derived.Test.YtjhganbjbiihoaaDoorClauseFull16
set_option linter.unusedVariables false
set_option linter.unusedSimpArgs false
set_option maxRecDepth 100000
namespace Go.Proofs.YtjhganbjbiihoaaDoor.Ab
open Go Go.Ab Go.Qu Go.Proofs
attribute [local simp] and_assoc
def wordsG : List Sym := [⟨⟨#[61]⟩, 0, 2, 1⟩, ⟨⟨#[97]⟩, 1, 0, 1⟩, ⟨⟨#[98]⟩, 1, 0, 2⟩, ⟨⟨#[102]⟩, 1, 1, 1⟩, ⟨⟨#[103]⟩, 1, 2, 3⟩, ⟨⟨#[112]⟩, 0, 1, 1⟩, ⟨⟨#[114]⟩, 0, 2, 2⟩]
theorem w_words : C 30 [] = some (.own false 88 4 (syms wordsG), []) := wfn (lk := []) rfl rfl (fnW_way (q30 _ _ _) rfl)
theorem words_ok : sigB wordsG = true := by decide +kernel
abbrev row51 : Row := ⟨false, [5, 1], []⟩
abbrev lit51 : LitR := ⟨false, row51⟩
abbrev row12 : Row := ⟨false, [1, 2], []⟩
theorem p1 : parts wordsG [1] = some [[1]] := parts_one (k := 1) (r := [1]) (by decide +kernel)
theorem p2 : parts wordsG [2] = some [[2]] := parts_one (k := 1) (r := [2]) (by decide +kernel)
theorem a51 : atomB wordsG [5, 1] = true := by
  have h : rowP wordsG [1] = some [[1]] := by rw [rowP, if_pos (by decide), p1]
  simp only [atomB, h, words_ok]
  decide +kernel
theorem r12 : rowB wordsG [1, 2] = true := rowB_of words_ok (by decide) (parts_join p1 p2)
def fullC (x y z : Nat) : Cl := ⟨(List.replicate x lit51).isEmpty, List.replicate x lit51, [], (List.replicate y row12).isEmpty, List.replicate y row12, [], (List.replicate z lit51).isEmpty, List.replicate z lit51, []⟩
theorem lenI_rep (n : Nat) (r : List Int) : lenI (List.replicate n r) = n * r.length := by
  induction n with
  | zero => simp [lenI]
  | succ n ih => rw [List.replicate_succ, lenI, ih, Nat.succ_mul]; omega
theorem full_ok {x y z : Nat} (hx : x < 8) (hy : y < 6) (hz : z < 6) : clB wordsG (fullC x y z) = (decide (x ≤ 5) && (decide (y ≤ 3) && decide (z ≤ 3))) := by
  rw [clB_c, Bool.eq_iff_iff, clOk]
  simp only [Bool.and_eq_true, decide_eq_true_eq]
  constructor
  · intro h
    have h1 := h.l5; have h2 := h.t3; have h3 := h.c3
    simp [fullC, Cl.c] at h1 h2 h3
    exact ⟨h1, h2, h3⟩
  · rintro ⟨h1, h2, h3⟩
    refine ⟨words_ok, by simpa [fullC, Cl.c] using h1, by simpa [fullC, Cl.c] using h2, by simpa [fullC, Cl.c] using h3, fun l hl => ?_, ⟨termsN wordsG [1, 2], fun r hr => ?_⟩, fun l hl => ?_, ?_⟩
    · simp [fullC, Cl.c] at hl; rw [hl.2]; exact a51
    · simp [fullC, Cl.c] at hr; rw [hr.2]; exact ⟨r12, rfl⟩
    · simp [fullC, Cl.c] at hl; rw [hl.2]; exact a51
    · simp only [CC.rows, fullC, Cl.c, lenI_app, List.map_replicate, lenI_rep, LitR.c, List.length_cons, List.length_nil]
      omega
theorem full_nil (x y z : Nat) : NilC (fullC x y z) := fun r hr hz => by
  simp only [rowsOf, fullC, List.mem_append, List.mem_map, List.mem_replicate] at hr
  rcases hr with (⟨l, ⟨_, rfl⟩, rfl⟩ | ⟨_, rfl⟩) | ⟨l, ⟨_, rfl⟩, rfl⟩ <;> cases hz
theorem once_rep {β : Type} [DecidableEq β] (a : β) : ∀ (n : Nat), onceK id [a] (List.replicate n a) = [a]
  | 0 => rfl
  | n + 1 => by rw [List.replicate_succ, onceK, if_pos (by simp)]; exact once_rep a n
theorem once_rep0 {β : Type} [DecidableEq β] (a : β) (n : Nat) : (onceK id [] (List.replicate n a)).length = min n 1 := by
  cases n with
  | zero => rfl
  | succ n =>
    rw [List.replicate_succ, onceK, if_neg (by simp)]
    rw [List.nil_append, once_rep]; simp
theorem full_len (x y z : Nat) : (anewC (fullC x y z)).ls.length = min x 1 ∧ (anewC (fullC x y z)).ts.length = min y 1 ∧ (anewC (fullC x y z)).cs.length = min z 1 := by
  have h := anew_c (fullC x y z)
  have h1 := congrArg (fun c : CC => c.ls.length) h
  have h2 := congrArg (fun c : CC => c.ts.length) h
  have h3 := congrArg (fun c : CC => c.cs.length) h
  simp only [Cl.c, normC, renCC, onceC, List.length_map, fullC, List.map_replicate, once_rep0] at h1 h2 h3
  exact ⟨h1, h2, h3⟩
theorem mod_nat (a : Int) (m : Nat) (hm : 0 < m) (hm2 : m ≤ 1000) : ∃ x : Nat, x < m ∧ IntKind.wrap .i64 (Int.tmod (IntKind.wrap .u64 a) m) = (x : Int) := by
  have h0 : 0 ≤ IntKind.wrap .u64 a := by
    unfold IntKind.wrap
    simp [IntKind.signed]
    exact Int.emod_nonneg _ (by simp [IntKind.bits])
  have h1 : Int.tmod (IntKind.wrap .u64 a) m = IntKind.wrap .u64 a % m := Int.tmod_eq_emod_of_nonneg h0
  have h2 := Int.emod_nonneg (IntKind.wrap .u64 a) (show (m : Int) ≠ 0 by omega)
  have h3 := Int.emod_lt_of_pos (IntKind.wrap .u64 a) (show (0 : Int) < m by omega)
  refine ⟨(IntKind.wrap .u64 a % m).toNat, by omega, ?_⟩
  rw [h1, wr _ (by omega) (by omega)]; omega
abbrev bF (x y z : Nat) : IV := .ptr 26 0 [.own (List.replicate x lit51).isEmpty 57 2 (lits (List.replicate x lit51)), .own (List.replicate y row12).isEmpty 33 1 (rws (List.replicate y row12)), .own (List.replicate z lit51).isEmpty 57 2 (lits (List.replicate z lit51))]
theorem rep_succ {α : Type} (n : Nat) (a : α) : List.replicate (n + 1) a = List.replicate n a ++ [a] := List.replicate_succ'
theorem l_full0 {x y z : Nat} (hx : x < 8) : evP F (Go.Ab.W F) (JW F d8 []) d8 [] [1,1,1,1,0,1] [(7, iI x), (8, iI y), (9, iI z), (10, bF 0 0 0), (11, iI 0)] = some (.norm [(7, iI x), (8, iI y), (9, iI z), (10, bF x 0 0), (11, iI x)]) :=
  blk_fun (F := F) (d := d8) (lk := []) (p := [1,1,1,1,0,1,0,0]) (p0 := [1,1,1,1,0,1]) (id := 0) (by kernel_rfl) (st := fun (i : Nat) => [(7, iI x), (8, iI y), (9, iI z), (10, bF i 0 0), (11, iI i)]) (I := fun i => i ≤ x) (μ := fun i => x - i) (res := fun _ => .norm [(7, iI x), (8, iI y), (9, iI z), (10, bF x 0 0), (11, iI x)])
    (fun i hi => by
      by_cases h : i < x
      · have hi' : (i : Int) < x := by omega
        have k1 : i + 1 ≤ 9223372036854775807 := by omega
        have k2 : (i + 1) * 32 ≤ 140737488355328 := by omega
        refine .go (i + 1) (wpQ_way (q8_l0a _ _ x y z _ (lits (List.replicate i lit51)) _ (rws (List.replicate 0 row12)) _ (lits (List.replicate 0 lit51)) i _) ?_) h (by omega) rfl
        simp [-Bool.exists_bool, -Int.natCast_add, hi', lits_len, k1, k2, wr1 h (by omega), rep_succ, lits_append, lits_cons, lits_nil, ints]
      · have : i = x := by omega
        subst this
        refine .stop (.exit 0 [(7, iI i), (8, iI y), (9, iI z), (10, bF i 0 0), (11, iI i)]) (wpQ_way (q8_l0a _ _ i y z _ (lits (List.replicate i lit51)) _ (rws (List.replicate 0 row12)) _ (lits (List.replicate 0 lit51)) i _) ?_) rfl rfl
        simp) 0 (Nat.zero_le _)
theorem l_full2 {x y z : Nat} (hy : y < 6) : evP F (Go.Ab.W F) (JW F d8 []) d8 [] [1,1,1,1,1,0,1] [(7, iI x), (8, iI y), (9, iI z), (10, bF x 0 0), (12, iI 0)] = some (.norm [(7, iI x), (8, iI y), (9, iI z), (10, bF x y 0), (12, iI y)]) :=
  blk_fun (F := F) (d := d8) (lk := []) (p := [1,1,1,1,1,0,1,0,0]) (p0 := [1,1,1,1,1,0,1]) (id := 2) (by kernel_rfl) (st := fun (i : Nat) => [(7, iI x), (8, iI y), (9, iI z), (10, bF x i 0), (12, iI i)]) (I := fun i => i ≤ y) (μ := fun i => y - i) (res := fun _ => .norm [(7, iI x), (8, iI y), (9, iI z), (10, bF x y 0), (12, iI y)])
    (fun i hi => by
      by_cases h : i < y
      · have hi' : (i : Int) < y := by omega
        have k1 : i + 1 ≤ 9223372036854775807 := by omega
        have k2 : (i + 1) * 24 ≤ 140737488355328 := by omega
        refine .go (i + 1) (wpQ_way (q8_l2b _ _ x y z _ (lits (List.replicate x lit51)) _ (rws (List.replicate i row12)) _ (lits (List.replicate 0 lit51)) i _) ?_) h (by omega) rfl
        simp [-Bool.exists_bool, -Int.natCast_add, hi', rws_len, k1, k2, wr1 h (by omega), rep_succ, rws_append, rws_cons, rws_nil, ints]
      · have : i = y := by omega
        subst this
        refine .stop (.exit 2 [(7, iI x), (8, iI i), (9, iI z), (10, bF x i 0), (12, iI i)]) (wpQ_way (q8_l2b _ _ x i z _ (lits (List.replicate x lit51)) _ (rws (List.replicate i row12)) _ (lits (List.replicate 0 lit51)) i _) ?_) rfl rfl
        simp) 0 (Nat.zero_le _)
theorem l_full4 {x y z : Nat} (hz : z < 6) : evP F (Go.Ab.W F) (JW F d8 []) d8 [] [1,1,1,1,1,1,0,1] [(7, iI x), (8, iI y), (9, iI z), (10, bF x y 0), (13, iI 0)] = some (.norm [(7, iI x), (8, iI y), (9, iI z), (10, bF x y z), (13, iI z)]) :=
  blk_fun (F := F) (d := d8) (lk := []) (p := [1,1,1,1,1,1,0,1,0,0]) (p0 := [1,1,1,1,1,1,0,1]) (id := 4) (by kernel_rfl) (st := fun (i : Nat) => [(7, iI x), (8, iI y), (9, iI z), (10, bF x y i), (13, iI i)]) (I := fun i => i ≤ z) (μ := fun i => z - i) (res := fun _ => .norm [(7, iI x), (8, iI y), (9, iI z), (10, bF x y z), (13, iI z)])
    (fun i hi => by
      by_cases h : i < z
      · have hi' : (i : Int) < z := by omega
        have k1 : i + 1 ≤ 9223372036854775807 := by omega
        have k2 : (i + 1) * 32 ≤ 140737488355328 := by omega
        refine .go (i + 1) (wpQ_way (q8_l4b _ _ x y z _ (lits (List.replicate x lit51)) _ (rws (List.replicate y row12)) _ (lits (List.replicate i lit51)) i _) ?_) h (by omega) rfl
        simp [-Bool.exists_bool, -Int.natCast_add, hi', lits_len, k1, k2, wr1 h (by omega), rep_succ, lits_append, lits_cons, lits_nil, ints]
      · have : i = z := by omega
        subst this
        refine .stop (.exit 4 [(7, iI x), (8, iI y), (9, iI i), (10, bF x y i), (13, iI i)]) (wpQ_way (q8_l4b _ _ x y i _ (lits (List.replicate x lit51)) _ (rws (List.replicate y row12)) _ (lits (List.replicate i lit51)) i _) ?_) rfl rfl
        simp) 0 (Nat.zero_le _)
theorem min_if (n : Nat) : ((min n 1 : Nat) : Int) = if (1 : Int) < n then 1 else (n : Int) := by split <;> omega
theorem law_full (a b d : Int) : C 8 [iI a, iI b, iI d] = some (iB true, [iI a, iI b, iI d]) := by
  refine wfn (lk := []) rfl rfl (fnW_way (q8 _ _ a b d _) ?_)
  obtain ⟨x, hx, ex⟩ := mod_nat a 8 (by omega) (by omega)
  obtain ⟨y, hy, ey⟩ := mod_nat b 6 (by omega) (by omega)
  obtain ⟨z, hz, ez⟩ := mod_nat d 6 (by omega) (by omega)
  have ex' : IntKind.wrap .i64 (Int.tmod (IntKind.wrap .u64 a) 8) = (x : Int) := ex
  have ey' : IntKind.wrap .i64 (Int.tmod (IntKind.wrap .u64 b) 6) = (y : Int) := ey
  have ez' : IntKind.wrap .i64 (Int.tmod (IntKind.wrap .u64 d) 6) = (z : Int) := ez
  rw [ex', ey', ez']
  refine ⟨_, w_awake, ?_⟩
  rw [condW_tt]
  have h0 := l_full0 (y := y) (z := z) hx
  have h2 := l_full2 (x := x) (z := z) hy
  have h4 := l_full4 (x := x) (y := y) hz
  refine ⟨_, _, _, _, _, _, _, _, _, _, h0, _, _, _, _, _, _, _, _, _, _, h2, _, _, _, _, _, _, _, _, _, _, h4, _, _, w_words, ?_⟩
  have hn := w_normal false wordsG [] (full_nil x y z)
  have hm := w_clmay false wordsG [] (fullC x y z)
  have hok := full_ok hx hy hz
  obtain ⟨f1, f2, f3⟩ := full_len x y z
  by_cases hB : (x ≤ 5 ∧ y ≤ 3) ∧ z ≤ 3
  · have hb : clB wordsG (fullC x y z) = true := by rw [hok]; simp [hB.1.1, hB.1.2, hB.2]
    rw [hb] at hn hm
    refine .inl ⟨_, _, _, _, _, _, _, _, _, hn, ?_⟩
    refine condW_t (decide_eq_true (by omega)) (condW_t (decide_eq_true (by omega)) (condW_t (decide_eq_true (by omega)) ⟨_, _, w_words, _, _, _, hm, condW_t rfl ⟨_, _, w_num _, condW_t rfl ?_⟩⟩))
    refine condW_t ?_ (condW_t ?_ (condW_t ?_ rfl))
    · rw [lits_len, f1, min_if]; simp
    · rw [rws_len, f2, min_if]; simp
    · rw [lits_len, f3, min_if]; simp
  · have hb : clB wordsG (fullC x y z) = false := by
      rw [hok, ← Bool.not_eq_true]
      simp only [Bool.and_eq_true, decide_eq_true_eq]
      omega
    rw [hb] at hn hm
    refine .inr ⟨_, _, _, hn, ?_⟩
    have hrest : ∀ {Q : Prop}, Q → ∃ w0 w1, C 30 [] = some (.own w0 88 4 w1, []) ∧ ∃ w2 w3 w4, C 18 [.d (.sl 4 w0 w1 []), iC (fullC x y z)] = some (iB w2, [w3, w4]) ∧ condW w2 False (∃ w5 w6, C 20 [iI 800] = some (iI w5, [w6]) ∧ condW (w5 == 0) False Q) := fun hq => ⟨_, _, w_words, _, _, _, hm, condW_f rfl ⟨_, _, w_num _, condW_f rfl hq⟩⟩
    by_cases h1 : x ≤ 5
    · refine condW_t (decide_eq_true (by omega)) ?_
      by_cases h2 : y ≤ 3
      · refine condW_t (decide_eq_true (by omega)) (condW_f (decide_eq_false (by omega)) ⟨_, _, w_words, _, _, _, hm, condW_f rfl ⟨_, _, w_num _, condW_f rfl rfl⟩⟩)
      · exact condW_f (decide_eq_false (by omega)) ⟨_, _, w_words, _, _, _, hm, condW_f rfl ⟨_, _, w_num _, condW_f rfl rfl⟩⟩
    · exact condW_f (decide_eq_false (by omega)) ⟨_, _, w_words, _, _, _, hm, condW_f rfl ⟨_, _, w_num _, condW_f rfl rfl⟩⟩
theorem call_full (y0 y1 y2 : D) (g0 : Go.Ab.Good Tryd.prog 12 3 y0) (g1 : Go.Ab.Good Tryd.prog 12 3 y1) (g2 : Go.Ab.Good Tryd.prog 12 3 y2) : ∃ outs, C 8 [.d y0, .d y1, .d y2] = some (iB true, outs) := by
  obtain ⟨a, rfl, _⟩ := good_int g0
  obtain ⟨b, rfl, _⟩ := good_int g1
  obtain ⟨d, rfl, _⟩ := good_int g2
  exact ⟨_, law_full a b d⟩
end Go.Proofs.YtjhganbjbiihoaaDoor.Ab
