/- Which term is more: what the program's functions hand back (the comparison). For every input; no condition. -/
import Derived.Test.YtollbcdhmnnjeaaDoorSimpCuts0
import Derived.Test.YtollbcdhmnnjeaaDoorSimpCuts1
import Derived.Test.YtollbcdhmnnjeaaDoorSimpCuts2
import Derived.Test.YtollbcdhmnnjeaaDoorSimpCuts3
import Derived.Test.YtollbcdhmnnjeaaDoorSimpCuts4
import Derived.Test.YtollbcdhmnnjeaaDoorSimpCuts5
import Derived.Test.YtollbcdhmnnjeaaDoorSimpCuts6
import Derived.Test.YtollbcdhmnnjeaaDoorSimpCuts7
import Derived.Test.YtollbcdhmnnjeaaDoorSimpCuts8
import Derived.Test.YtollbcdhmnnjeaaDoorSimpCuts9
import Derived.Test.YtollbcdhmnnjeaaDoorSimpCuts10
import Derived.Test.YtollbcdhmnnjeaaDoorSimpCuts11
import Derived.Test.YtollbcdhmnnjeaaDoorSimpCuts12
set_option linter.unusedVariables false
set_option linter.unusedSimpArgs false
set_option maxRecDepth 100000
namespace Go.Proofs.YtollbcdhmnnjeaaDoor.Ab
open Go Go.Ab Go.Qu Go.Proofs
attribute [local simp] and_assoc
def pcR (z : Bool) (ts : List (List Int)) : List Row := ts.map fun t => ⟨z, t, []⟩
theorem pcR_len (z : Bool) (ts : List (List Int)) : (pcR z ts).length = ts.length := by simp [pcR]
theorem pcR_at {z : Bool} {ts : List (List Int)} {i : Nat} {t : List Int} (h : ts[i]? = some t) : (rws (pcR z ts))[i]? = some (.sl 1 z (ints t) []) := by
  simp [pcR, rws, h, Row.d]
theorem l_pieces {g : List Sym} (hg : SigOk g) (z z' : Bool) (e e' : List D) {r : List Int} (hr : r.length ≤ 1000) (x : List (List Int) × Nat)
    (hx : x.2 ≤ r.length ∧ x.1.length ≤ x.2 ∧ (∃ m, lenN g (r.drop x.2) m = some (r.length - x.2)) ∧ x.1 ++ pcs g (r.drop x.2) = pcs g r) :
    evP F (Go.Ab.W F) (JW F d54 []) d54 [] [1,1,0,1] [(0, iG z g e), (1, iS z' r e'), (5, .own x.1.isEmpty 23 1 (rws (pcR z' x.1))), (6, iI x.2)] = some (.norm [(0, iG z g e), (1, iS z' r e'), (5, .own (pcs g r).isEmpty 23 1 (rws (pcR z' (pcs g r)))), (6, iI r.length)]) :=
  blk_fun (F := F) (d := d54) (lk := []) (p := [1,1,0,1,0,0]) (p0 := [1,1,0,1]) (id := 0) (by kernel_rfl) (st := fun (x : List (List Int) × Nat) => [(0, iG z g e), (1, iS z' r e'), (5, .own x.1.isEmpty 23 1 (rws (pcR z' x.1))), (6, iI x.2)]) (I := fun x => x.2 ≤ r.length ∧ x.1.length ≤ x.2 ∧ (∃ m, lenN g (r.drop x.2) m = some (r.length - x.2)) ∧ x.1 ++ pcs g (r.drop x.2) = pcs g r) (μ := fun x => r.length - x.2)
    (res := fun _ => .norm [(0, iG z g e), (1, iS z' r e'), (5, .own (pcs g r).isEmpty 23 1 (rws (pcR z' (pcs g r)))), (6, iI r.length)])
    (fun x hx => by
      obtain ⟨out, i⟩ := x
      obtain ⟨h1, h2, ⟨m, h3⟩, h4⟩ := hx
      dsimp only at h1 h2 h3 h4
      by_cases hi : i < r.length
      rotate_left
      · have e0 : i = r.length := by omega
        subst e0
        refine .stop (.exit 0 [(0, iG z g e), (1, iS z' r e'), (5, .own out.isEmpty 23 1 (rws (pcR z' out))), (6, iI r.length)]) (wpQ_way (q54_l0a _ _ z (syms g) e z' (ints r) e' out.isEmpty (rws (pcR z' out)) r.length _) (by simp [ints_len])) rfl ?_
        rw [List.drop_length, pcs_nil, List.append_nil] at h4
        rw [h4]; rfl
      have hi' : (i : Int) < r.length := by omega
      have hm : m ≠ 0 := fun e0 => by
        subst e0
        have : lenN g (r.drop i) 0 = some 0 := by cases r.drop i <;> rfl
        rw [this] at h3
        simp at h3; omega
      obtain ⟨m, rfl⟩ : ∃ m', m = m' + 1 := ⟨m - 1, by omega⟩
      obtain ⟨k1, k2, h5, h6, h7⟩ := lenN_first h3
      have hle := lenN_le h5
      simp only [List.length_drop] at hle
      have hsk := w_skip hg z z' e e' (r := r) (by omega) i
      rw [skB, skV, h5] at hsk
      have hne : r.drop i ≠ [] := by simp; omega
      rw [pcs_some hne h5, List.drop_drop] at h4
      have hpc : List.drop i (tkX (i + k1) (ints r) e') = ints ((r.drop i).take k1) := by
        rw [tkX_ints (by omega), ints_drop, List.drop_take, Nat.add_sub_cancel_left]
      have hk1 : (i : Int) ≤ ((i + k1 : Nat) : Int) := by omega
      have hk2 : ((i + k1 : Nat) : Int) ≤ ((r.length + e'.length : Nat) : Int) := by omega
      have hk3 : ((i + k1 : Nat) : Int) ≤ (r.length : Int) + (e'.length : Int) := by omega
      have hl1 : (rws (pcR z' out)).length = out.length := by rw [rws_len, pcR_len]
      have hb1 : out.length + 1 ≤ 9223372036854775807 := by omega
      have hb2 : (out.length + 1) * 24 ≤ 140737488355328 := by omega
      refine .go (out ++ [(r.drop i).take k1], i + k1) (wpQ_way (q54_l0a _ _ z (syms g) e z' (ints r) e' out.isEmpty (rws (pcR z' out)) i _) ?_) ⟨by dsimp only; omega, by simp; omega, ⟨m, by dsimp only; rw [← List.drop_drop, h6]; congr 1; omega⟩, by dsimp only; rw [List.append_assoc]; exact h4⟩ (by dsimp only; omega) rfl
      have hrw : rws (pcR z' (out ++ [(r.drop i).take k1])) = rws (pcR z' out) ++ [.sl 1 z' (ints ((r.drop i).take k1)) []] := by simp [pcR, rws, Row.d]
      have hem : (out ++ [(r.drop i).take k1]).isEmpty = false := by simp
      dsimp only
      rw [hrw, hem]
      simp [-Bool.exists_bool, -getElem?_pos, -Int.natCast_add, -List.length_take, -List.length_drop, hi', ints_len, hsk, hpc, hk1, hk2, hk3, hl1, hb1, hb2]) x hx
theorem w_pieces {g : List Sym} (hg : SigOk g) (z z' : Bool) (e e' : List D) {r : List Int} (hr : r.length ≤ 1000) {n : Nat} (h : lenN g r n = some r.length) :
    C 54 [iG z g e, iS z' r e'] = some (.own (pcs g r).isEmpty 23 1 (rws (pcR z' (pcs g r))), [iG z g e, iS z' r e']) := by
  refine wfn (lk := []) rfl rfl (fnW_way (q54 _ _ z (syms g) e z' (ints r) e' _) ?_)
  have h1 := l_pieces hg z z' e e' hr ([], 0) ⟨Nat.zero_le _, Nat.zero_le _, ⟨n, by simpa using h⟩, rfl⟩
  exact .inr ⟨_, _, _, _, _, _, _, _, _, h1, rfl⟩
theorem l_unlike {us vs : List (List Int)} (ha : us.length ≤ 1000) (hl : ∀ x ∈ us, Len x) (hlb : ∀ x ∈ vs, Len x) (z1 z2 : Bool) (zb za : Bool) (i : Nat) (hi : i ≤ us.length) :
    evP F (Go.Ab.W F) (JW F d50 []) d50 [] [1,1,0,1] [(8, .own zb 23 1 (rws (pcR z2 vs))), (16, .own za 23 1 (rws (pcR z1 us))), (17, iI us.length), (18, iI i)] = some (match unlF (us.drop i) (vs.drop i) with | some (x, y) => .ret [(6, iS z1 x []), (7, iS z2 y [])] | none => .norm [(8, .own zb 23 1 (rws (pcR z2 vs))), (16, .own za 23 1 (rws (pcR z1 us))), (17, iI us.length), (18, iI us.length)]) :=
  blk_fun (F := F) (d := d50) (lk := []) (p := [1,1,0,1,0,0]) (p0 := [1,1,0,1]) (id := 0) (by kernel_rfl) (st := fun (i : Nat) => [(8, .own zb 23 1 (rws (pcR z2 vs))), (16, .own za 23 1 (rws (pcR z1 us))), (17, iI us.length), (18, iI i)]) (I := fun i => i ≤ us.length) (μ := fun i => us.length - i)
    (res := fun i => match unlF (us.drop i) (vs.drop i) with | some (x, y) => .ret [(6, iS z1 x []), (7, iS z2 y [])] | none => .norm [(8, .own zb 23 1 (rws (pcR z2 vs))), (16, .own za 23 1 (rws (pcR z1 us))), (17, iI us.length), (18, iI us.length)])
    (fun i hx => by
      by_cases hi : i < us.length
      rotate_left
      · have e0 : i = us.length := by omega
        subst e0
        refine .stop (.exit 0 [(8, .own zb 23 1 (rws (pcR z2 vs))), (16, .own za 23 1 (rws (pcR z1 us))), (17, iI us.length), (18, iI us.length)]) (wpQ_way (q50_l0a _ _ zb (rws (pcR z2 vs)) za (rws (pcR z1 us)) us.length us.length _) (by simp)) rfl ?_
        rw [List.drop_length, unlF]; rfl
        simp
      obtain ⟨x, hx⟩ := at_lt hi
      have hxa := pcR_at (z := z1) hx
      have hi' : (i : Int) < us.length := by omega
      have hda : us.drop i = x :: us.drop (i + 1) := by
        rw [List.drop_eq_getElem_cons hi]; rw [List.getElem?_eq_getElem hi] at hx; cases hx; rfl
      have hw1 := wr1 hi (show us.length ≤ 9223372036854775807 by omega)
      have hlb1 : (rws (pcR z2 vs)).length = vs.length := by rw [rws_len, pcR_len]
      by_cases hb : i < vs.length
      rotate_left
      · have hb' : ¬ (i : Int) < vs.length := by omega
        have hb'' : vs.length ≤ i := by omega
        refine .go (i + 1) (wpQ_way (q50_l0a _ _ zb (rws (pcR z2 vs)) za (rws (pcR z1 us)) us.length i _) ?_) hi (by omega) ?_
        · simp [-Bool.exists_bool, -getElem?_pos, -Int.natCast_add, hi', hxa, hb', hb'', hlb1, hw1]
        · rw [List.drop_of_length_le (l := vs) (by omega), List.drop_of_length_le (l := vs) (by omega)]
          cases us.drop (i + 1) <;> cases us.drop i <;> rfl
      obtain ⟨y, hy⟩ := at_lt hb
      have hyb := pcR_at (z := z2) hy
      have hb' : (i : Int) < vs.length := by omega
      have hdb : vs.drop i = y :: vs.drop (i + 1) := by
        rw [List.drop_eq_getElem_cons hb]; rw [List.getElem?_eq_getElem hb] at hy; cases hy; rfl
      have heq := w_equal (hl x (List.mem_of_getElem? hx)) y z1 z2 [] []
      by_cases hxy : x = y
      · rw [decide_eq_true hxy] at heq
        refine .go (i + 1) (wpQ_way (q50_l0a _ _ zb (rws (pcR z2 vs)) za (rws (pcR z1 us)) us.length i _) ?_) hi (by omega) ?_
        · simp [-Bool.exists_bool, -getElem?_pos, -Int.natCast_add, hi', hxa, hyb, hb', hb, hlb1, heq, hw1]
        · rw [hda, hdb, unlF, if_pos hxy]
      · rw [decide_eq_false hxy] at heq
        refine .stop (.ret [(6, iS z1 x []), (7, iS z2 y [])]) (wpQ_way (q50_l0a _ _ zb (rws (pcR z2 vs)) za (rws (pcR z1 us)) us.length i _) ?_) rfl ?_
        · simp [-Bool.exists_bool, -getElem?_pos, -Int.natCast_add, hi', hxa, hyb, hb', hb, hlb1, heq]
        · rw [hda, hdb, unlF, if_neg hxy]; rfl) i hi
theorem w_unlike {g : List Sym} (hg : SigOk g) (z z1 z2 : Bool) (e e1 e2 : List D) {a b : List Int} (ha : a.length ≤ 1000) (hb : b.length ≤ 1000) {n m : Nat} (h : lenN g a n = some a.length) (h' : lenN g b m = some b.length) :
    C 50 [iG z g e, iS z1 a e1, iS z2 b e2] = some ((match unlF (pcs g a) (pcs g b) with | some (x, y) => .tup [iS z1 x [], iS z2 y []] | none => .tup [.d (.sl 1 true [] []), .d (.sl 1 true [] [])]), [iG z g e, iS z1 a e1, iS z2 b e2]) := by
  refine wfn (lk := []) rfl rfl (fnW_way (q50 _ _ z (syms g) e z1 (ints a) e1 z2 (ints b) e2 _) ?_)
  refine ⟨_, _, _, _, w_pieces hg z z2 e e2 hb h', _, _, _, _, w_pieces hg z z1 e e1 ha h, ?_⟩
  have hla : ∀ x ∈ pcs g a, Len x := fun x hx => by have := pcs_len (g := g) _ (Nat.le_refl _) x hx; unfold Len; omega
  have hlb : ∀ x ∈ pcs g b, Len x := fun x hx => by have := pcs_len (g := g) _ (Nat.le_refl _) x hx; unfold Len; omega
  have hn : (pcs g a).length ≤ 1000 := by
    have h1 := (pcs_row h).2.2
    have h2 := lenN_le h
    omega
  have h1 := l_unlike hn hla hlb z1 z2 (pcs g b).isEmpty (pcs g a).isEmpty 0 (Nat.zero_le _)
  rw [List.drop_zero, List.drop_zero] at h1
  have hl1 : (rws (pcR z1 (pcs g a))).length = (pcs g a).length := by rw [rws_len, pcR_len]
  rw [hl1]
  cases hu : unlF (pcs g a) (pcs g b) with
  | none => rw [hu] at h1; exact .inr ⟨_, _, _, _, _, _, h1, rfl⟩
  | some p => obtain ⟨x, y⟩ := p; rw [hu] at h1; exact .inl ⟨_, _, _, _, _, _, h1, rfl⟩
/-! ### More -/
/-- What may be compared: a term's codes, or an atom's. -/
def ObjOk (g : List Sym) (a : List Int) : Prop := a ≠ [] ∧ a.length ≤ 49 ∧ (∀ c ∈ a, -24 ≤ c ∧ c < g.length) ∧ ∃ n, lenN g a.tail n = some a.tail.length
theorem obj_one {g : List Sym} {a : List Int} (h : One g a) (hl : a.length ≤ 49) : ObjOk g a := by
  have h1 := one_24 h
  have h2 := (one_codes h).2
  obtain ⟨c, r, n, rfl, h3, h4⟩ := one_cons h
  exact ⟨by simp, hl, fun x hx => ⟨h1 x hx, h2 x hx⟩, n, h4⟩
theorem obj_atom {g : List Sym} {a : List Int} (h : atomB g a = true) : ObjOk g a := by
  have h1 := atom_codes h
  cases a with
  | nil => simp [atomB] at h
  | cons p r =>
    refine ⟨by simp, h1.1, h1.2.1, ?_⟩
    unfold atomB at h
    dsimp only at h
    split at h
    · cases h
    · split at h
      · cases h
      · simp only [Bool.and_eq_true] at h
        have h2 := h.2
        split at h2
        · rename_i ts hts
          unfold rowP at hts
          split at hts
          · exact ⟨_, parts_all _ (Nat.le_refl _) hts⟩
          · cases hts
        · cases h2
def moreB (g : List Sym) (a b : List Int) : Bool := moreF g a.length a b
theorem more_fuel {g : List Sym} {a b : List Int} {n : Nat} (ha : a ≠ []) (hn : a.length ≤ n) : moreF g n a b = moreB g a b :=
  Bool.eq_iff_iff.2 ⟨fun h => more_to (more_of h) (Nat.le_refl _) ha, fun h => more_to (more_of h) hn ha⟩
theorem moreB_iff {g : List Sym} {a b : List Int} (ha : a ≠ []) : moreB g a b = true ↔ More g a b :=
  ⟨more_of, fun h => more_to h (Nat.le_refl _) ha⟩
def mB (g : List Sym) (x : Row × Row) : Bool := !x.1.z && moreB g x.1.l x.2.l
theorem l_more {g : List Sym} (hg : SigOk g) (z : Bool) (e : List D) (x : Row × Row) (hx : x.1.z = true ∨ (x.1.z = false ∧ ObjOk g x.1.l ∧ ObjOk g x.2.l)) :
    ∃ o, evP F (Go.Ab.W F) (JW F d27 []) d27 [] [1,0] [(0, iG z g e), (1, iS x.1.z x.1.l x.1.e), (2, iS x.2.z x.2.l x.2.e)] = some o ∧ (o = .ret [(6, iB (mB g x))] ∨ ∃ y : Row × Row, o = .norm [(0, iG z g e), (1, iS y.1.z y.1.l y.1.e), (2, iS y.2.z y.2.l y.2.e)] ∧ mB g x = false) :=
  blk_rule (F := F) (d := d27) (lk := []) (p := [1,0,0,0]) (p0 := [1,0]) 0 (by kernel_rfl) (fun (x : Row × Row) => [(0, iG z g e), (1, iS x.1.z x.1.l x.1.e), (2, iS x.2.z x.2.l x.2.e)]) (fun x => x.1.z = true ∨ (x.1.z = false ∧ ObjOk g x.1.l ∧ ObjOk g x.2.l)) (fun x => if x.1.z then 0 else x.1.l.length)
    (fun x o => o = .ret [(6, iB (mB g x))] ∨ ∃ y : Row × Row, o = .norm [(0, iG z g e), (1, iS y.1.z y.1.l y.1.e), (2, iS y.2.z y.2.l y.2.e)] ∧ mB g x = false)
    (fun x hx => by
      obtain ⟨⟨za, a, ea⟩, ⟨zb, b, eb⟩⟩ := x
      dsimp only at hx
      cases za with
      | true =>
        refine .inr ⟨.exit 0 [(0, iG z g e), (1, iS true a ea), (2, iS zb b eb)], wpQ_way (q27_l0a _ _ z (syms g) e true (ints a) ea zb (ints b) eb _) (by simp), rfl, .inr ⟨(⟨true, a, ea⟩, ⟨zb, b, eb⟩), rfl, by simp [mB]⟩⟩
      | false =>
        obtain ⟨ha, hb⟩ : ObjOk g a ∧ ObjOk g b := by simpa using hx
        obtain ⟨a1, a2, a3, n, a4⟩ := ha
        obtain ⟨b1, b2, b3, m, b4⟩ := hb
        have hla : Len a := by unfold Len; omega
        have hlb : Len b := by unfold Len; omega
        have hcov := w_covers hla hlb (fun c hc => (a3 c hc).1) (fun c hc => (b3 c hc).1) false zb ea eb
        have hsa := w_sum hg hla (fun c hc => (a3 c hc).2) z false e ea
        have hsb := w_sum hg hlb (fun c hc => (b3 c hc).2) z zb e eb
        have hna : 1 ≤ a.length := List.length_pos_iff.2 a1
        have hnb : 1 ≤ b.length := List.length_pos_iff.2 b1
        have hga : (ints a)[0]? = some (.int .i64 (gi a 0)) := Go.Ab.ints_at hna
        have hgb : (ints b)[0]? = some (.int .i64 (gi b 0)) := Go.Ab.ints_at hnb
        obtain ⟨k, hk⟩ : ∃ k, a.length = k + 1 := ⟨a.length - 1, by omega⟩
        have hM : mB g (⟨false, a, ea⟩, ⟨zb, b, eb⟩) = moreF g (k + 1) a b := by simp [mB, moreB, hk]
        by_cases hc : covB a b = true
        rotate_left
        · have hc : covB a b = false := by simpa using hc
          rw [hc] at hcov
          refine .inr ⟨.exit 0 [(0, iG z g e), (1, iS false a ea), (2, iS zb b eb)], wpQ_way (q27_l0a _ _ z (syms g) e false (ints a) ea zb (ints b) eb _) (by simp [-Bool.exists_bool, hcov]), rfl, .inr ⟨(⟨false, a, ea⟩, ⟨zb, b, eb⟩), rfl, ?_⟩⟩
          rw [hM, moreF, if_pos hc]
        rw [hc] at hcov
        have hcn : ¬ covB a b = false := by simp [hc]
        by_cases hs : sumW g a = sumW g b
        rotate_left
        · refine .inr ⟨.ret [(6, iB (decide (sumW g b < sumW g a)))], wpQ_way (q27_l0a _ _ z (syms g) e false (ints a) ea zb (ints b) eb _) ?_, rfl, .inl ?_⟩
          · by_cases hlt : sumW g b < sumW g a
            · simp [-Bool.exists_bool, hcov, hsa, hsb, hs, hlt]
            · have hle : sumW g a ≤ sumW g b := by omega
              simp [-Bool.exists_bool, hcov, hsa, hsb, hs, hlt, hle]
          · rw [hM, moreF, if_neg hcn, if_pos hs]; rfl
        by_cases hh : gi a 0 = gi b 0
        rotate_left
        · refine .inr ⟨.ret [(6, iB (decide (gi b 0 < gi a 0)))], wpQ_way (q27_l0a _ _ z (syms g) e false (ints a) ea zb (ints b) eb _) ?_, rfl, .inl ?_⟩
          · by_cases hlt : gi b 0 < gi a 0
            · simp [-Bool.exists_bool, -getElem?_pos, hcov, hsa, hsb, hs, hga, hgb, hh, hlt]
            · have hle : gi a 0 ≤ gi b 0 := by omega
              simp [-Bool.exists_bool, -getElem?_pos, hcov, hsa, hsb, hs, hga, hgb, hh, hlt, hle]
          · rw [hM, moreF, if_neg hcn, if_neg (by simpa using hs), if_pos hh]; rfl
        have hu := w_unlike hg z false zb e [] [] (a := a.tail) (b := b.tail) (by simp; omega) (by simp; omega) a4 b4
        have hda : (ints a).tail = ints a.tail := by simp [ints]
        have hdb : (ints b).tail = ints b.tail := by simp [ints]
        have hlia : (1 : Int) ≤ ((ints a).length : Int) := by rw [ints_len]; omega
        have hlib : (1 : Int) ≤ ((ints b).length : Int) := by rw [ints_len]; omega
        cases hq : unlF (pcs g a.tail) (pcs g b.tail) with
        | none =>
          rw [hq] at hu
          refine .inl ⟨(⟨true, [], []⟩, ⟨true, [], []⟩), wpQ_way (q27_l0a _ _ z (syms g) e false (ints a) ea zb (ints b) eb _) ?_, .inl rfl, by simp; omega, fun o ho => ?_⟩
          · simp [-Bool.exists_bool, -getElem?_pos, hcov, hsa, hsb, hs, hga, hgb, hh, hda, hdb, hlia, hlib, hu, ints_nil]
          · have : mB g (⟨false, a, ea⟩, ⟨zb, b, eb⟩) = false := by rw [hM, moreF, if_neg hcn, if_neg (by simpa using hs), if_neg (by simpa using hh), hq]
            rw [this]
            simpa [mB] using ho
        | some p =>
          obtain ⟨u, v⟩ := p
          rw [hq] at hu
          have hmem := unl_mem hq
          have hu1 := (pcs_row a4).1 u hmem.1
          have hv1 := (pcs_row b4).1 v hmem.2
          have hu2 := pcs_len (g := g) _ (Nat.le_refl _) u hmem.1
          have hv2 := pcs_len (g := g) _ (Nat.le_refl _) v hmem.2
          have hu3 := hu2.2
          have hv3 := hv2.2
          simp only [List.length_tail] at hu3 hv3
          have hmm : mB g (⟨false, a, ea⟩, ⟨zb, b, eb⟩) = mB g (⟨false, u, []⟩, ⟨zb, v, []⟩) := by
            rw [hM, moreF, if_neg hcn, if_neg (by simpa using hs), if_neg (by simpa using hh), hq]
            dsimp only
            rw [more_fuel hu2.1 (by omega)]
            simp [mB]
          refine .inl ⟨(⟨false, u, []⟩, ⟨zb, v, []⟩), wpQ_way (q27_l0a _ _ z (syms g) e false (ints a) ea zb (ints b) eb _) ?_, .inr ⟨rfl, obj_one hu1 (show u.length ≤ 49 by omega), obj_one hv1 (show v.length ≤ 49 by omega)⟩, by simp; omega, fun o ho => ?_⟩
          · simp [-Bool.exists_bool, -getElem?_pos, hcov, hsa, hsb, hs, hga, hgb, hh, hda, hdb, hlia, hlib, hu]
          · rw [hmm]; exact ho) x hx
theorem w_more {g : List Sym} (hg : SigOk g) (z z1 z2 : Bool) (e e1 e2 : List D) {a b : List Int} (ha : ObjOk g a) (hb : ObjOk g b) (hz : z1 = true → a = []) :
    C 27 [iG z g e, iS z1 a e1, iS z2 b e2] = some (iB (moreB g a b), [iG z g e, iS z1 a e1, iS z2 b e2]) := by
  have hz1 : z1 = false := by
    cases z1 with
    | false => rfl
    | true => exact absurd (hz rfl) ha.1
  subst hz1
  refine wfn (lk := []) rfl rfl (fnW_way (q27 _ _ z (syms g) e false (ints a) e1 z2 (ints b) e2 _) ?_)
  obtain ⟨o, h1, h2⟩ := l_more hg z e (⟨false, a, e1⟩, ⟨z2, b, e2⟩) (.inr ⟨rfl, ha, hb⟩)
  have hm : mB g (⟨false, a, e1⟩, ⟨z2, b, e2⟩) = moreB g a b := by simp [mB]
  rw [hm] at h2
  rcases h2 with rfl | ⟨y, rfl, h3⟩
  · exact .inl ⟨_, h1, rfl⟩
  · rw [h3]
    exact .inr ⟨_, _, _, _, _, _, _, _, _, h1, rfl⟩
end Go.Proofs.YtollbcdhmnnjeaaDoor.Ab

/- Binds: what the program's functions hand back. For every input; no condition. -/
set_option linter.unusedVariables false
set_option linter.unusedSimpArgs false
set_option maxRecDepth 100000
namespace Go.Proofs.YtollbcdhmnnjeaaDoor.Ab
open Go Go.Ab Go.Qu Go.Proofs
attribute [local simp] and_assoc
/-- Not too many binds. -/
def LenB (s : List Bd) : Prop := s.length ≤ 10000000000000
def rowAt (s : List Bd) (i : Nat) : Row := match s[i]? with | some b => b.r | none => ⟨true, [], []⟩
theorem w_bfind {s : List Bd} (hl : LenB s) (z : Bool) (e : List D) (v : Int) : C 64 [iBd z s e, iI v] = some (iS (findB s v).z (findB s v).l (findB s v).e, [iBd z s e, iI v]) := by
  unfold LenB at hl
  refine wfn (lk := []) rfl rfl (fnW_way (q64 _ _ z (bds s) e v _) ?_)
  rcases blk_find (F := F) (d := d64) (lk := []) (p := [1,0,1,0,0]) (p0 := [1,0,1]) (by kernel_rfl) (n := s.length) (id := 0) (st := fun i => [(1, iI v), (7, iBd z s e), (8, iI s.length), (9, iI i)]) (q := fun i => match s[i]? with | some b => b.v == v | none => false) (rt := fun i => [(4, iS (rowAt s i).z (rowAt s i).l (rowAt s i).e)]) (e := [(1, iI v), (7, iBd z s e), (8, iI s.length), (9, iI s.length)])
    (fun i hi hq => by
      refine wpQ_way (q64_l0a _ _ v z (bds s) e _ i _) ?_
      obtain ⟨b, hb⟩ := at_lt hi
      simp [hb] at hq
      have hr : rowAt s i = b.r := by simp [rowAt, hb]
      simp [-Bool.exists_bool, -getElem?_pos, wr1 hi (by omega), hi, bds_at hb, hq, hr])
    (fun i hi hq => by
      refine wpQ_way (q64_l0a _ _ v z (bds s) e _ i _) ?_
      obtain ⟨b, hb⟩ := at_lt hi
      simp [hb] at hq
      have hr : rowAt s i = b.r := by simp [rowAt, hb]
      simp [-Bool.exists_bool, -getElem?_pos, wr1 hi (by omega), hi, bds_at hb, hq, hr])
    (wpQ_way (q64_l0a _ _ v z (bds s) e _ s.length _) (by simp)) 0 (Nat.zero_le _) with ⟨h2, h3⟩ | ⟨j, h1, h2, h4, h5, h3⟩
  · have hf : findB s v = ⟨true, [], []⟩ := findB_none (fun k hk c hc => by
      have := h2 k (Nat.zero_le _) hk
      rw [hc] at this; simpa using this)
    rw [hf]
    simp at h3
    refine Or.inr ⟨_, _, _, _, _, _, by rw [bds_len]; exact h3, rfl⟩
  · obtain ⟨b, hb⟩ := at_lt h2
    rw [hb] at h4
    have hf : findB s v = b.r := findB_some hb (by simpa using h4) (fun k hk c hc => by
      have := h5 k (Nat.zero_le _) hk
      rw [hc] at this; simpa using this)
    have hr : rowAt s j = b.r := by simp [rowAt, hb]
    rw [hf]
    simp at h3
    rw [hr] at h3
    refine Or.inl ⟨_, _, _, by rw [bds_len]; exact h3, rfl⟩
theorem w_isterm (z z' : Bool) (g : List Sym) (e e' : List D) (r : List Int) : C 24 [iG z g e, iS z' r e'] = some (iB (oneB g r), [iG z g e, iS z' r e']) := by
  refine wfn (lk := []) rfl rfl (fnW_way (q24 _ _ z (syms g) e z' (ints r) e' _) ?_)
  have h1 := w_begins z z' g e e' r
  refine ⟨_, _, _, _, _, h1, ?_⟩
  cases h : rowB g r
  · simp [oneB, h]
  · rw [condW_tt, ints_len]
    have e1 : (begsM g r).length = termsN g r := rfl
    rw [e1]
    by_cases h1 : termsN g r = 1
    · simp [oneB, h, h1]
    · have h2 : ((termsN g r : Int) == 1) = false := by simp; omega
      rw [h2, condW_ff]
      simp [oneB, h, h1]
theorem w_on {g : List Sym} {s : List Bd} (hs : bindB g s = true) (hn : NilOk s) (hl : LenB s) {r : List Int} (hr : r.length ≤ 1000) (hc : ∀ c ∈ r, -1000000 ≤ c ∧ c ≤ 1000000) (z z' : Bool) (e e' : List D) : C 48 [iBd z s e, iS z' r e'] = some (.own (onB s r).isEmpty 3 1 (ints (onB s r)), [iBd z s e, iS z' r e']) := by
  refine wfn (lk := []) rfl rfl (fnW_way (q48 _ _ z (bds s) e z' (ints r) e' _) ?_)
  have h1 := fun x hx => blk_fun (F := F) (d := d48) (lk := []) (p := [1,1,0,1,0,0]) (p0 := [1,1,0,1]) (id := 0) (by kernel_rfl) (st := fun (x : List Int × Nat) => [(0, iBd z s e), (5, .own x.1.isEmpty 3 1 (ints x.1)), (9, iS z' r e'), (10, iI r.length), (11, iI x.2)]) (I := fun x => x.2 ≤ r.length ∧ x.1.length ≤ 48 * x.2) (μ := fun x => r.length - x.2)
    (res := fun x => .norm [(0, iBd z s e), (5, .own (x.1 ++ onB s (r.drop x.2)).isEmpty 3 1 (ints (x.1 ++ onB s (r.drop x.2)))), (9, iS z' r e'), (10, iI r.length), (11, iI r.length)])
    (fun x hx => by
      obtain ⟨acc, i⟩ := x
      obtain ⟨hx1, hx2⟩ := hx
      dsimp only at hx1 hx2
      by_cases hi : i < r.length
      · have hci := hc _ (gi_mem hi)
        have hi' : (i : Int) < (r.length : Int) := by omega
        have hi0 : (0 : Int) ≤ (i : Int) := by omega
        have hw : IntKind.wrap .i64 (-1 - gi r i) = -1 - gi r i := wr _ (by omega) (by omega)
        have hnu := w_number (gi r i)
        rw [hw] at hnu
        have hf := w_bfind hl z e (-1 - gi r i)
        have hcl := onC_len hs hn (gi r i)
        refine .go (acc ++ onC s (gi r i), i + 1) (wpQ_way (q48_l0a _ _ z (bds s) e _ (ints acc) z' (ints r) e' _ i _) ?_) ⟨by dsimp only; omega, by simp; omega⟩ (by dsimp only; omega) ?_
        · rw [condW_d, if_pos hi', condW_d, if_pos hi0, Int.toNat_natCast]
          refine ⟨_, Go.Ab.ints_at hi, _, _, hnu, _, _, _, _, _, hf, ?_⟩
          rw [wr1 hi (by omega), ints_len, condW_d]
          have n1 : acc.length + (0 + 1) ≤ 9223372036854775807 := by omega
          have n2 : (acc.length + (0 + 1)) * 8 ≤ 140737488355328 := by omega
          have h1c : ∀ c : Int, onC s (gi r i) = [c] → Out.norm [(0, iBd z s e), (5, IV.own (acc.isEmpty && false) 3 1 (ints acc ++ [D.int .i64 c])), (9, iS z' r e'), (10, iI r.length), (11, iI (i + 1 : Nat))] = Out.norm [(0, iBd z s e), (5, .own (acc ++ onC s (gi r i)).isEmpty 3 1 (ints (acc ++ onC s (gi r i)))), (9, iS z' r e'), (10, iI r.length), (11, iI (i + 1 : Nat))] := fun c h => by
            rw [h]; simp [ints_append, ints_cons, ints_nil]
          by_cases h0 : 0 ≤ gi r i
          · rw [if_pos h0, condW_d, if_pos n1, condW_d, if_pos n2]
            exact h1c _ (by rw [onC, if_pos h0])
          · rw [if_neg h0]
            cases hz : (findB s (-1 - gi r i)).z
            · have hl1 : (findB s (-1 - gi r i)).l.length ≤ 48 := by
                rcases find_ok hs hn (-1 - gi r i) with ⟨a, _⟩ | ⟨_, a, _⟩
                · rw [hz] at a; cases a
                · exact (one_lenN a).2.1
              rw [condW_ff, ints_len, condW_d, if_pos (by omega), condW_d, if_pos (by omega)]
              have hon : onC s (gi r i) = (findB s (-1 - gi r i)).l := by rw [onC, if_neg h0, if_neg (by simp [hz])]
              rw [hon]
              cases hfl : (findB s (-1 - gi r i)).l <;> simp [ints_append, ints_nil, ints_cons]
            · rw [condW_tt, condW_d, if_pos n1, condW_d, if_pos n2]
              exact h1c _ (by rw [onC, if_neg h0, if_pos hz])
        · dsimp only
          rw [gi_drop hi, onB, List.append_assoc]
      · have e1 : i = r.length := by omega
        subst e1
        refine .stop (.exit 0 [(0, iBd z s e), (5, .own acc.isEmpty 3 1 (ints acc)), (9, iS z' r e'), (10, iI r.length), (11, iI r.length)]) (wpQ_way (q48_l0a _ _ z (bds s) e _ (ints acc) z' (ints r) e' _ r.length _) (by simp)) rfl ?_
        simp [blkO, onB]) x hx
  have h2 : evP F (Go.Ab.W F) (JW F d48 []) d48 [] [1,1,0,1] [(0, iBd z s e), (5, .own true 3 1 []), (9, iS z' r e'), (10, iI r.length), (11, iI 0)] = _ := h1 ([], 0) ⟨Nat.zero_le _, Nat.zero_le _⟩
  rw [List.drop_zero, List.nil_append] at h2
  rw [ints_len]
  exact ⟨_, _, _, _, _, _, _, _, _, _, h2, rfl⟩
/-- What Apply hands back. -/
def appE (g : List Sym) (s : List Bd) (r : List Int) : Int := if (bindB g s && rowB g r) = true then (if (onB s r).length > 48 then 301 else 0) else 300
def appV (g : List Sym) (s : List Bd) (r : List Int) : List Int := if appE g s r = 0 then onB s r else []
theorem w_bclone {t : List Int} (ht : Len t) (z : Bool) (hz : z = true → t = []) (e : List D) : C 34 [iS z t e] = some (.own z 3 1 (ints t), [iS z t e]) := by
  refine wfn (lk := []) rfl rfl (fnW_way (q34 _ _ z (ints t) e _) ?_)
  unfold Len at ht
  cases z
  · rw [condW_ff, ints_len, condW_d, if_pos (by omega), condW_d, if_pos (by omega)]
  · rw [condW_tt, hz rfl]; rfl
end Go.Proofs.YtollbcdhmnnjeaaDoor.Ab

/- Compare, and which rewrites may be: what the program's functions hand back. For every input; no condition. -/
set_option linter.unusedVariables false
set_option linter.unusedSimpArgs false
set_option maxRecDepth 100000
namespace Go.Proofs.YtollbcdhmnnjeaaDoor.Ab
open Go Go.Ab Go.Qu Go.Proofs
attribute [local simp] and_assoc
def cmpOk (g : List Sym) (a b : List Int) : Bool := (oneB g a && oneB g b) || (atomB g a && atomB g b)
def cmpV (g : List Sym) (a b : List Int) : Int := if cmpOk g a b = false then 0 else if a = b then 1 else if moreB g a b then 2 else if moreB g b a then 0 else 3
theorem one_sig {g : List Sym} {a : List Int} (h : oneB g a = true) : SigOk g ∧ ObjOk g a := by
  obtain ⟨h1, h2, h3⟩ := one_lenN h
  exact ⟨sigOk h1, obj_one h3 (by omega)⟩
theorem cmp_ok {g : List Sym} {a b : List Int} (h : cmpOk g a b = true) : SigOk g ∧ ObjOk g a ∧ ObjOk g b := by
  unfold cmpOk at h
  simp only [Bool.or_eq_true, Bool.and_eq_true] at h
  rcases h with ⟨h1, h2⟩ | ⟨h1, h2⟩
  · exact ⟨(one_sig h1).1, (one_sig h1).2, (one_sig h2).2⟩
  · exact ⟨sigOk (atom_sig h1), obj_atom h1, obj_atom h2⟩
theorem w_compare (z z1 z2 : Bool) (g : List Sym) (e e1 e2 : List D) (a b : List Int) (ha : z1 = true → a = []) (hb : z2 = true → b = []) :
    C 9 [iG z g e, iS z1 a e1, iS z2 b e2] = some (.tup [iI (cmpV g a b), iI (if cmpOk g a b = true then 0 else 600)], [iG z g e, iS z1 a e1, iS z2 b e2]) := by
  refine wfn (lk := []) rfl rfl (fnW_way (q9 _ _ z (syms g) e z1 (ints a) e1 z2 (ints b) e2 _) ?_)
  have t1 := w_isterm z z1 g e e1 a
  have t2 := w_isterm z z2 g e e2 b
  have t3 := w_isatom z z1 g e e1 a
  have t4 := w_isatom z z2 g e e2 b
  cases hok : cmpOk g a b with
  | false =>
    have hv : cmpV g a b = 0 := by rw [cmpV, if_pos hok]
    rw [hv]
    unfold cmpOk at hok
    cases h1 : oneB g a <;> cases h2 : oneB g b <;> cases h3 : atomB g a <;> cases h4 : atomB g b <;> simp [h1, h2, h3, h4] at hok <;> simp [-Bool.exists_bool, t1, t2, t3, t4, h1, h2, h3, h4]
  | true =>
    obtain ⟨hg, ho, hp⟩ := cmp_ok hok
    have hla : Len a := by have := ho.2.1; unfold Len; omega
    have h5 := w_equal hla b z1 z2 e1 e2
    have h6 := w_more hg z z1 z2 e e1 e2 ho hp ha
    have h7 := w_more hg z z2 z1 e e2 e1 hp ho hb
    have hv : cmpV g a b = if a = b then 1 else if moreB g a b then 2 else if moreB g b a then 0 else 3 := by rw [cmpV, if_neg (by simp [hok])]
    rw [hv]
    have tail : ∃ (w51 : Bool) (w52 w53 : D), C 26 [iS z1 a e1, iS z2 b e2] = some (iB w51, [.d w52, .d w53]) ∧ condW w51 ((some ((IV.tup [iI 1, iI 0], [iG z g e, iS z1 a e1, iS z2 b e2])) : Option (IV × List IV)) = some (.tup [iI (if a = b then 1 else if moreB g a b then 2 else if moreB g b a then 0 else 3), iI 0], [iG z g e, iS z1 a e1, iS z2 b e2])) (∃ (w54 : Bool) (w55 w56 w57 : D), C 27 [iG z g e, iS z1 a e1, iS z2 b e2] = some (iB w54, [.d w55, .d w56, .d w57]) ∧ condW w54 ((some ((IV.tup [iI 2, iI 0], [iG z g e, iS z1 a e1, iS z2 b e2])) : Option (IV × List IV)) = some (.tup [iI (if a = b then 1 else if moreB g a b then 2 else if moreB g b a then 0 else 3), iI 0], [iG z g e, iS z1 a e1, iS z2 b e2])) (∃ (w58 : Bool) (w59 w60 w61 : D), C 27 [iG z g e, iS z2 b e2, iS z1 a e1] = some (iB w58, [.d w59, .d w60, .d w61]) ∧ condW w58 ((some ((IV.tup [iI 0, iI 0], [iG z g e, iS z1 a e1, iS z2 b e2])) : Option (IV × List IV)) = some (.tup [iI (if a = b then 1 else if moreB g a b then 2 else if moreB g b a then 0 else 3), iI 0], [iG z g e, iS z1 a e1, iS z2 b e2])) ((some ((IV.tup [iI 3, iI 0], [iG z g e, iS z1 a e1, iS z2 b e2])) : Option (IV × List IV)) = some (.tup [iI (if a = b then 1 else if moreB g a b then 2 else if moreB g b a then 0 else 3), iI 0], [iG z g e, iS z1 a e1, iS z2 b e2])))) := by
      refine ⟨_, _, _, h5, ?_⟩
      by_cases hab : a = b
      · rw [decide_eq_true hab, if_pos hab]; rfl
      rw [decide_eq_false hab, condW_ff, if_neg hab]
      refine ⟨_, _, _, _, h6, ?_⟩
      cases hm : moreB g a b
      · rw [condW_ff]
        refine ⟨_, _, _, _, h7, ?_⟩
        cases hm2 : moreB g b a <;> rfl
      · rfl
    unfold cmpOk at hok
    cases h1 : oneB g a <;> cases h2 : oneB g b <;> cases h3 : atomB g a <;> cases h4 : atomB g b <;> simp [h1, h2, h3, h4] at hok <;> (rw [h1] at t1; rw [h2] at t2; rw [h3] at t3; rw [h4] at t4)
    all_goals first
      | exact ⟨_, _, _, t1, condW_t rfl ⟨_, _, _, t2, condW_t rfl ⟨_, _, _, t3, condW_t rfl ⟨_, _, _, t4, condW_t rfl tail⟩⟩⟩⟩
      | exact ⟨_, _, _, t1, condW_t rfl ⟨_, _, _, t2, condW_t rfl ⟨_, _, _, t3, condW_t rfl ⟨_, _, _, t4, condW_f rfl tail⟩⟩⟩⟩
      | exact ⟨_, _, _, t1, condW_t rfl ⟨_, _, _, t2, condW_t rfl ⟨_, _, _, t3, condW_f rfl tail⟩⟩⟩
      | exact ⟨_, _, _, t1, condW_t rfl ⟨_, _, _, t2, condW_f rfl ⟨_, _, _, t3, condW_t rfl ⟨_, _, _, t4, condW_t rfl tail⟩⟩⟩⟩
      | exact ⟨_, _, _, t1, condW_f rfl ⟨_, _, _, t3, condW_t rfl ⟨_, _, _, t4, condW_t rfl tail⟩⟩⟩
theorem w_smore (z z1 z2 : Bool) (g : List Sym) (e e1 e2 : List D) (a b : List Int) (ha : z1 = true → a = []) (hb : z2 = true → b = []) :
    C 33 [iG z g e, iS z1 a e1, iS z2 b e2] = some (iB (cmpOk g a b && decide (cmpV g a b = 2)), [iG z g e, iS z1 a e1, iS z2 b e2]) := by
  refine wfn (lk := []) rfl rfl (fnW_way (q33 _ _ z (syms g) e z1 (ints a) e1 z2 (ints b) e2 _) ?_)
  refine ⟨_, _, _, _, _, w_compare z z1 z2 g e e1 e2 a b ha hb, ?_⟩
  cases h : cmpOk g a b
  · rfl
  · by_cases h2 : cmpV g a b = 2
    · rw [h2]; rfl
    · rw [decide_eq_false h2]
      refine condW_t rfl (condW_f (by simpa using h2) rfl)
def ruB (g : List Sym) (a b : List Int) : Bool := oneB g a && (oneB g b && (cmpOk g a b && decide (cmpV g a b = 2)))
theorem w_rewritemay (z z1 z2 : Bool) (g : List Sym) (e e1 e2 : List D) (a b : List Int) (ha : z1 = true → a = []) (hb : z2 = true → b = []) :
    C 21 [iG z g e, .d (.agg [.sl 1 z1 (ints a) e1, .sl 1 z2 (ints b) e2])] = some (iB (ruB g a b), [iG z g e, .d (.agg [.sl 1 z1 (ints a) e1, .sl 1 z2 (ints b) e2])]) := by
  refine wfn (lk := []) rfl rfl (fnW_way (q21 _ _ z (syms g) e z1 (ints a) e1 z2 (ints b) e2 _) ?_)
  refine ⟨_, _, _, w_isterm z z1 g e e1 a, ?_⟩
  unfold ruB
  cases h1 : oneB g a
  · rfl
  refine ⟨_, _, _, w_isterm z z2 g e e2 b, ?_⟩
  cases h2 : oneB g b
  · rfl
  refine ⟨_, _, _, _, w_smore z z1 z2 g e e1 e2 a b ha hb, ?_⟩
  cases h3 : (cmpOk g a b && decide (cmpV g a b = 2)) <;> rfl
theorem ru_more {g : List Sym} {a b : List Int} (h : ruB g a b = true) : SigOk g ∧ One g a ∧ One g b ∧ a.length ≤ 48 ∧ b.length ≤ 48 ∧ More g a b := by
  unfold ruB at h
  simp only [Bool.and_eq_true, decide_eq_true_eq] at h
  obtain ⟨h1, h2, h3, h4⟩ := h
  obtain ⟨a1, a2, a3⟩ := one_lenN h1
  obtain ⟨b1, b2, b3⟩ := one_lenN h2
  refine ⟨sigOk a1, a3, b3, a2, b2, ?_⟩
  rw [cmpV, if_neg (by simp [h3])] at h4
  split at h4
  · cases h4
  · split at h4
    · rename_i hm; exact more_of hm
    · split at h4 <;> cases h4
end Go.Proofs.YtollbcdhmnnjeaaDoor.Ab

/- A row that is rewritten: what the program's functions hand back. For every input; no condition. -/
set_option linter.unusedVariables false
set_option linter.unusedSimpArgs false
set_option maxRecDepth 100000
namespace Go.Proofs.YtollbcdhmnnjeaaDoor.Ab
open Go Go.Ab Go.Qu Go.Proofs
attribute [local simp] and_assoc
theorem w_on48 {s : List Bd} (hs : ∀ v, (findB s v).l.length ≤ 48) (hl : LenB s) {r : List Int} (hr : r.length ≤ 1000) (hc : ∀ c ∈ r, -1000000 ≤ c ∧ c ≤ 1000000) (z z' : Bool) (e e' : List D) : C 48 [iBd z s e, iS z' r e'] = some (.own (onB s r).isEmpty 3 1 (ints (onB s r)), [iBd z s e, iS z' r e']) := by
  refine wfn (lk := []) rfl rfl (fnW_way (q48 _ _ z (bds s) e z' (ints r) e' _) ?_)
  have h1 := fun x hx => blk_fun (F := F) (d := d48) (lk := []) (p := [1,1,0,1,0,0]) (p0 := [1,1,0,1]) (id := 0) (by kernel_rfl) (st := fun (x : List Int × Nat) => [(0, iBd z s e), (5, .own x.1.isEmpty 3 1 (ints x.1)), (9, iS z' r e'), (10, iI r.length), (11, iI x.2)]) (I := fun x => x.2 ≤ r.length ∧ x.1.length ≤ 48 * x.2) (μ := fun x => r.length - x.2)
    (res := fun x => .norm [(0, iBd z s e), (5, .own (x.1 ++ onB s (r.drop x.2)).isEmpty 3 1 (ints (x.1 ++ onB s (r.drop x.2)))), (9, iS z' r e'), (10, iI r.length), (11, iI r.length)])
    (fun x hx => by
      obtain ⟨acc, i⟩ := x
      obtain ⟨hx1, hx2⟩ := hx
      dsimp only at hx1 hx2
      by_cases hi : i < r.length
      · have hci := hc _ (gi_mem hi)
        have hi' : (i : Int) < (r.length : Int) := by omega
        have hi0 : (0 : Int) ≤ (i : Int) := by omega
        have hw : IntKind.wrap .i64 (-1 - gi r i) = -1 - gi r i := wr _ (by omega) (by omega)
        have hnu := w_number (gi r i)
        rw [hw] at hnu
        have hf := w_bfind hl z e (-1 - gi r i)
        have hcl : (onC s (gi r i)).length ≤ 48 := by
          unfold onC
          split
          · simp
          · split
            · simp
            · exact hs _
        refine .go (acc ++ onC s (gi r i), i + 1) (wpQ_way (q48_l0a _ _ z (bds s) e _ (ints acc) z' (ints r) e' _ i _) ?_) ⟨by dsimp only; omega, by simp; omega⟩ (by dsimp only; omega) ?_
        · rw [condW_d, if_pos hi', condW_d, if_pos hi0, Int.toNat_natCast]
          refine ⟨_, Go.Ab.ints_at hi, _, _, hnu, _, _, _, _, _, hf, ?_⟩
          rw [wr1 hi (by omega), ints_len, condW_d]
          have n1 : acc.length + (0 + 1) ≤ 9223372036854775807 := by omega
          have n2 : (acc.length + (0 + 1)) * 8 ≤ 140737488355328 := by omega
          have h1c : ∀ c : Int, onC s (gi r i) = [c] → Out.norm [(0, iBd z s e), (5, IV.own (acc.isEmpty && false) 3 1 (ints acc ++ [D.int .i64 c])), (9, iS z' r e'), (10, iI r.length), (11, iI (i + 1 : Nat))] = Out.norm [(0, iBd z s e), (5, .own (acc ++ onC s (gi r i)).isEmpty 3 1 (ints (acc ++ onC s (gi r i)))), (9, iS z' r e'), (10, iI r.length), (11, iI (i + 1 : Nat))] := fun c h => by
            rw [h]; simp [ints_append, ints_cons, ints_nil]
          by_cases h0 : 0 ≤ gi r i
          · rw [if_pos h0, condW_d, if_pos n1, condW_d, if_pos n2]
            exact h1c _ (by rw [onC, if_pos h0])
          · rw [if_neg h0]
            cases hz : (findB s (-1 - gi r i)).z
            · have hl1 := hs (-1 - gi r i)
              rw [condW_ff, ints_len, condW_d, if_pos (by omega), condW_d, if_pos (by omega)]
              have hon : onC s (gi r i) = (findB s (-1 - gi r i)).l := by rw [onC, if_neg h0, if_neg (by simp [hz])]
              rw [hon]
              cases hfl : (findB s (-1 - gi r i)).l <;> simp [ints_append, ints_nil, ints_cons]
            · rw [condW_tt, condW_d, if_pos n1, condW_d, if_pos n2]
              exact h1c _ (by rw [onC, if_neg h0, if_pos hz])
        · dsimp only
          rw [gi_drop hi, onB, List.append_assoc]
      · have e1 : i = r.length := by omega
        subst e1
        refine .stop (.exit 0 [(0, iBd z s e), (5, .own acc.isEmpty 3 1 (ints acc)), (9, iS z' r e'), (10, iI r.length), (11, iI r.length)]) (wpQ_way (q48_l0a _ _ z (bds s) e _ (ints acc) z' (ints r) e' _ r.length _) (by simp)) rfl ?_
        simp [blkO, onB]) x hx
  have h2 : evP F (Go.Ab.W F) (JW F d48 []) d48 [] [1,1,0,1] [(0, iBd z s e), (5, .own true 3 1 []), (9, iS z' r e'), (10, iI r.length), (11, iI 0)] = _ := h1 ([], 0) ⟨Nat.zero_le _, Nat.zero_le _⟩
  rw [List.drop_zero, List.nil_append] at h2
  rw [ints_len]
  exact ⟨_, _, _, _, _, _, _, _, _, _, h2, rfl⟩
theorem w_grow (n : Nat) (hn : n ≤ 1000000) : C 63 [.d (.sl 1 true [] []), iI n] = some (.own (decide ((n : Int) = 0)) 3 1 [], [.d (.sl 1 true [] []), iI n]) := by
  refine W_prim (p := growP 3 1) rfl ?_
  unfold growP
  dsimp only
  rw [if_pos ⟨by omega, by omega⟩]

theorem ints_empty (a : List Int) : (ints a).isEmpty = a.isEmpty := by cases a <;> rfl
/-- The three parts of a row, and how long the first ones are. -/
def c3 (a b c : List Int) (i : Nat) : List Int := if i = 0 then [] else if i = 1 then a else if i = 2 then a ++ b else a ++ b ++ c
abbrev D3 (z1 z2 z3 : Bool) (a b c : List Int) (e1 e2 e3 : List D) : IV := .d (.sl 1 false [.sl 1 z1 (ints a) e1, .sl 1 z2 (ints b) e2, .sl 1 z3 (ints c) e3] [])
theorem w_concat3 {a b c : List Int} (ha : a.length ≤ 1000) (hb : b.length ≤ 10000) (hc : c.length ≤ 1000) (z1 z2 z3 : Bool) (e1 e2 e3 : List D) : C 47 [D3 z1 z2 z3 a b c e1 e2 e3] = some (.own (decide (((a ++ (b ++ c)).length : Int) = 0)) 3 1 (ints (a ++ (b ++ c))), [D3 z1 z2 z3 a b c e1 e2 e3]) := by
  refine wfn (lk := []) rfl rfl (fnW_way (q47 _ _ false [.sl 1 z1 (ints a) e1, .sl 1 z2 (ints b) e2, .sl 1 z3 (ints c) e3] [] _) ?_)
  have h1 := blk_fun (F := F) (d := d47) (lk := []) (p := [1,1,0,1,0,0]) (p0 := [1,1,0,1]) (id := 0) (by kernel_rfl) (st := fun (i : Nat) => [(0, D3 z1 z2 z3 a b c e1 e2 e3), (3, iI ((c3 a b c i).length : Nat)), (9, D3 z1 z2 z3 a b c e1 e2 e3), (10, iI 3), (11, iI i)]) (I := fun i => i ≤ 3) (μ := fun i => 3 - i)
    (res := fun _ => .norm [(0, D3 z1 z2 z3 a b c e1 e2 e3), (3, iI ((c3 a b c 3).length : Nat)), (9, D3 z1 z2 z3 a b c e1 e2 e3), (10, iI 3), (11, iI 3)])
    (fun i hi => by
      have hw3 : IntKind.wrap .i64 (0 + 1) = 1 := by rw [wr _ (by omega) (by omega)]; omega
      have hw4 : IntKind.wrap .i64 (1 + 1) = 2 := by rw [wr _ (by omega) (by omega)]; omega
      have hw5 : IntKind.wrap .i64 (2 + 1) = 3 := by rw [wr _ (by omega) (by omega)]; omega
      have k0 : (c3 a b c 0).length = 0 := rfl
      have k1 : (c3 a b c 1).length = a.length := rfl
      have k2 : (c3 a b c 2).length = a.length + b.length := by simp [c3]
      have k3 : (c3 a b c 3).length = a.length + b.length + c.length := by simp [c3]; omega
      have h3 : i = 0 ∨ i = 1 ∨ i = 2 ∨ i = 3 := by omega
      rcases h3 with rfl | rfl | rfl | rfl
      · refine .go 1 (wpQ_way (q47_l0a _ _ false [.sl 1 z1 (ints a) e1, .sl 1 z2 (ints b) e2, .sl 1 z3 (ints c) e3] [] _ false [.sl 1 z1 (ints a) e1, .sl 1 z2 (ints b) e2, .sl 1 z3 (ints c) e3] [] 3 0 _) ?_) (by omega) (by omega) rfl
        refine condW_t (by decide) (condW_t (by decide) ⟨_, _, _, rfl, ?_⟩)
        have hw : IntKind.wrap .i64 (((c3 a b c 0).length : Nat) + ((ints a).length : Int)) = ((c3 a b c 1).length : Int) := by rw [ints_len, k0, k1, wr _ (by omega) (by omega)]; omega
        rw [hw, hw3]
        exact condW_f (decide_eq_false (by omega)) rfl
      · refine .go 2 (wpQ_way (q47_l0a _ _ false [.sl 1 z1 (ints a) e1, .sl 1 z2 (ints b) e2, .sl 1 z3 (ints c) e3] [] _ false [.sl 1 z1 (ints a) e1, .sl 1 z2 (ints b) e2, .sl 1 z3 (ints c) e3] [] 3 1 _) ?_) (by omega) (by omega) rfl
        refine condW_t (by decide) (condW_t (by decide) ⟨_, _, _, rfl, ?_⟩)
        have hw : IntKind.wrap .i64 (((c3 a b c 1).length : Nat) + ((ints b).length : Int)) = ((c3 a b c 2).length : Int) := by rw [ints_len, k1, k2, wr _ (by omega) (by omega)]; omega
        rw [hw, hw4]
        exact condW_f (decide_eq_false (by omega)) rfl
      · refine .go 3 (wpQ_way (q47_l0a _ _ false [.sl 1 z1 (ints a) e1, .sl 1 z2 (ints b) e2, .sl 1 z3 (ints c) e3] [] _ false [.sl 1 z1 (ints a) e1, .sl 1 z2 (ints b) e2, .sl 1 z3 (ints c) e3] [] 3 2 _) ?_) (by omega) (by omega) rfl
        refine condW_t (by decide) (condW_t (by decide) ⟨_, _, _, rfl, ?_⟩)
        have hw : IntKind.wrap .i64 (((c3 a b c 2).length : Nat) + ((ints c).length : Int)) = ((c3 a b c 3).length : Int) := by rw [ints_len, k2, k3, wr _ (by omega) (by omega)]; omega
        rw [hw, hw5]
        exact condW_f (decide_eq_false (by omega)) rfl
      · exact .stop (.exit 0 [(0, D3 z1 z2 z3 a b c e1 e2 e3), (3, iI ((c3 a b c 3).length : Nat)), (9, D3 z1 z2 z3 a b c e1 e2 e3), (10, iI 3), (11, iI 3)]) (wpQ_way (q47_l0a _ _ false [.sl 1 z1 (ints a) e1, .sl 1 z2 (ints b) e2, .sl 1 z3 (ints c) e3] [] _ false [.sl 1 z1 (ints a) e1, .sl 1 z2 (ints b) e2, .sl 1 z3 (ints c) e3] [] 3 3 _) (condW_f (by decide) rfl)) rfl rfl) 0 (Nat.zero_le _)
  have k3 : c3 a b c 3 = a ++ (b ++ c) := by simp [c3]
  have hlen : (a ++ (b ++ c)).length = a.length + (b.length + c.length) := by simp
  have hg := w_grow (a ++ (b ++ c)).length (by omega)
  rw [← k3] at hlen hg ⊢
  generalize hzf : decide (((c3 a b c 3).length : Int) = 0) = zf at hg ⊢
  have hz : ∀ t : List Int, t.length ≤ (c3 a b c 3).length → (zf && (ints t).isEmpty) = zf := fun t ht => by
    rw [← hzf, ints_empty]
    by_cases h0 : (c3 a b c 3).length = 0
    · have : t = [] := List.length_eq_zero_iff.1 (by omega)
      subst this; simp
    · have : ¬ ((c3 a b c 3).length : Int) = 0 := by omega
      rw [decide_eq_false this]; rfl
  have h2 := blk_fun (F := F) (d := d47) (lk := []) (p := [1,1,1,1,0,1,0,0]) (p0 := [1,1,1,1,0,1]) (id := 2) (by kernel_rfl) (st := fun (i : Nat) => [(6, .own zf 3 1 (ints (c3 a b c i))), (25, D3 z1 z2 z3 a b c e1 e2 e3), (26, iI 3), (27, iI i)]) (I := fun i => i ≤ 3) (μ := fun i => 3 - i)
    (res := fun _ => .norm [(6, .own zf 3 1 (ints (c3 a b c 3))), (25, D3 z1 z2 z3 a b c e1 e2 e3), (26, iI 3), (27, iI 3)])
    (fun i hi => by
      have hw3 : IntKind.wrap .i64 (0 + 1) = 1 := by rw [wr _ (by omega) (by omega)]; omega
      have hw4 : IntKind.wrap .i64 (1 + 1) = 2 := by rw [wr _ (by omega) (by omega)]; omega
      have hw5 : IntKind.wrap .i64 (2 + 1) = 3 := by rw [wr _ (by omega) (by omega)]; omega
      have k0 : c3 a b c 0 = [] := rfl
      have k1 : c3 a b c 1 = a := rfl
      have k2 : c3 a b c 2 = a ++ b := rfl
      have j1 : ints (c3 a b c 0) ++ ints a = ints (c3 a b c 1) := rfl
      have j2 : ints (c3 a b c 1) ++ ints b = ints (c3 a b c 2) := by rw [k1, k2, ints_append]
      have j3 : ints (c3 a b c 2) ++ ints c = ints (c3 a b c 3) := by rw [k2, k3, ints_append, ints_append, ints_append, List.append_assoc]
      have l1 : (c3 a b c 1).length = a.length := rfl
      have l2 : (c3 a b c 2).length = a.length + b.length := by simp [c3]
      have h3 : i = 0 ∨ i = 1 ∨ i = 2 ∨ i = 3 := by omega
      rcases h3 with rfl | rfl | rfl | rfl
      · refine .go 1 (wpQ_way (q47_l2a _ _ zf (ints (c3 a b c 0)) false [.sl 1 z1 (ints a) e1, .sl 1 z2 (ints b) e2, .sl 1 z3 (ints c) e3] [] 3 0 _) ?_) (by omega) (by omega) rfl
        refine condW_t (by decide) (condW_t (by decide) ⟨_, _, _, rfl, condW_t (by rw [k0]; simp [ints_len, ints_nil]; omega) (condW_t (by rw [k0]; simp [ints_len, ints_nil]; omega) ?_)⟩)
        rw [hz a (by omega), hw3, j1]; rfl
      · refine .go 2 (wpQ_way (q47_l2a _ _ zf (ints (c3 a b c 1)) false [.sl 1 z1 (ints a) e1, .sl 1 z2 (ints b) e2, .sl 1 z3 (ints c) e3] [] 3 1 _) ?_) (by omega) (by omega) rfl
        refine condW_t (by decide) (condW_t (by decide) ⟨_, _, _, rfl, condW_t (by simp [ints_len, l1]; omega) (condW_t (by simp [ints_len, l1]; omega) ?_)⟩)
        rw [hz b (by omega), hw4, j2]; rfl
      · refine .go 3 (wpQ_way (q47_l2a _ _ zf (ints (c3 a b c 2)) false [.sl 1 z1 (ints a) e1, .sl 1 z2 (ints b) e2, .sl 1 z3 (ints c) e3] [] 3 2 _) ?_) (by omega) (by omega) rfl
        refine condW_t (by decide) (condW_t (by decide) ⟨_, _, _, rfl, condW_t (by simp [ints_len, l2]; omega) (condW_t (by simp [ints_len, l2]; omega) ?_)⟩)
        rw [hz c (by omega), hw5, j3]; rfl
      · exact .stop (.exit 2 [(6, .own zf 3 1 (ints (c3 a b c 3))), (25, D3 z1 z2 z3 a b c e1 e2 e3), (26, iI 3), (27, iI 3)]) (wpQ_way (q47_l2a _ _ zf (ints (c3 a b c 3)) false [.sl 1 z1 (ints a) e1, .sl 1 z2 (ints b) e2, .sl 1 z3 (ints c) e3] [] 3 3 _) (condW_f (by decide) rfl)) rfl rfl) 0 (Nat.zero_le _)
  exact ⟨_, _, _, _, _, _, _, _, _, h1, _, _, _, _, hg, _, _, _, _, _, _, _, h2, rfl⟩
/-! ### The binds as a list -/
theorem listF_drop (u : Bs) {i : Nat} (hi : i < 24) : listF u (24 - i) i = (match u i with | none => [] | some t => if t = [-1 - (i : Int)] then [] else [⟨i, ⟨false, t, []⟩⟩]) ++ listF u (24 - (i + 1)) (i + 1) := by
  rw [show 24 - i = (24 - (i + 1)) + 1 by omega, listF]
  cases u i <;> rfl
theorem l_mlist {u : Bs} (hu : ∀ v t, u v = some t → 1 ≤ t.length ∧ t.length ≤ 1000) (x : List Bd × Nat) (hx : x.2 ≤ 24 ∧ x.1.length ≤ x.2 ∧ x.1 ++ listF u (24 - x.2) x.2 = listF u 24 0) :
    evP F (Go.Ab.W F) (JW F d41 [0]) d41 [0] [1,1,0,1] [(0, bM u), (3, .own x.1.isEmpty 94 2 (bds x.1)), (8, iI x.2), (2006038, .dead)] = some (.norm [(0, bM u), (3, .own (listF u 24 0).isEmpty 94 2 (bds (listF u 24 0))), (8, iI (24 : Nat)), (2006038, .dead)]) :=
  blk_fun (F := F) (d := d41) (lk := [0]) (p := [1,1,0,1,0,0]) (p0 := [1,1,0,1]) (id := 0) (by kernel_rfl) (st := fun (x : List Bd × Nat) => [(0, bM u), (3, .own x.1.isEmpty 94 2 (bds x.1)), (8, iI x.2), (2006038, .dead)]) (I := fun x => x.2 ≤ 24 ∧ x.1.length ≤ x.2 ∧ x.1 ++ listF u (24 - x.2) x.2 = listF u 24 0) (μ := fun x => 24 - x.2)
    (res := fun _ => .norm [(0, bM u), (3, .own (listF u 24 0).isEmpty 94 2 (bds (listF u 24 0))), (8, iI (24 : Nat)), (2006038, .dead)])
    (fun x hx => by
      obtain ⟨out, i⟩ := x
      obtain ⟨h1, h2, h3⟩ := hx
      dsimp only at h1 h2 h3
      by_cases hi : i < 24
      rotate_left
      · have e0 : i = 24 := by omega
        have hi' : ¬ (i : Int) < 24 := by omega
        refine .stop (.exit 0 [(0, bM u), (3, .own out.isEmpty 94 2 (bds out)), (8, iI i), (2006038, .dead)]) (wpQ_way (q41_l0a _ _ (bsD u) out.isEmpty (bds out) i _) ?_) rfl ?_
        · rw [condW_d, if_neg hi']
        · rw [show 24 - i = 0 by omega, listF, List.append_nil] at h3
          rw [h3, e0]; rfl
      have hi' : (i : Int) < 24 := by omega
      have hat := bsD_at u hi
      have hw1 := wr1 hi (show 24 ≤ 9223372036854775807 by omega)
      have hnu := w_number (i : Int)
      have hwn : IntKind.wrap .i64 (-1 - (i : Int)) = -1 - (i : Int) := wr _ (by omega) (by omega)
      rw [hwn] at hnu
      rw [listF_drop u hi] at h3
      have hl := bds_len out
      have n1 : out.length + (0 + 1) ≤ 9223372036854775807 := by omega
      have n2 : (out.length + (0 + 1)) * 32 ≤ 140737488355328 := by omega
      have n1' : out.length + 1 ≤ 9223372036854775807 := by omega
      have n2' : (out.length + 1) * 32 ≤ 140737488355328 := by omega
      cases hq : u i with
      | none =>
        rw [hq] at hat h3
        refine .go (out, i + 1) (wpQ_way (q41_l0a _ _ (bsD u) out.isEmpty (bds out) i _) ?_) ⟨by dsimp only; omega, by dsimp only; omega, by simpa using h3⟩ (by dsimp only; omega) rfl
        simp [-Bool.exists_bool, -getElem?_pos, -Int.natCast_add, hi', hat, hw1]
      | some t =>
        rw [hq] at hat h3
        have ht := hu i t hq
        have hlt : Len t := by unfold Len; omega
        have hcl := w_clone hlt false (by simp) []
        by_cases h0 : t = [-1 - (i : Int)]
        · dsimp only at h3
          rw [if_pos h0] at h3
          subst h0
          refine .go (out, i + 1) (wpQ_way (q41_l0a _ _ (bsD u) out.isEmpty (bds out) i _) ?_) ⟨by dsimp only; omega, by dsimp only; omega, by simpa using h3⟩ (by dsimp only; omega) rfl
          simp [-Bool.exists_bool, -getElem?_pos, -Int.natCast_add, List.getElem?_cons_zero, hi', hat, hw1, ints_len, ints_cons, ints_nil, hnu]
        · dsimp only at h3
          rw [if_neg h0] at h3
          refine .go (out ++ [⟨i, ⟨false, t, []⟩⟩], i + 1) (wpQ_way (q41_l0a _ _ (bsD u) out.isEmpty (bds out) i _) ?_) ⟨by dsimp only; omega, by simp; omega, by simpa using h3⟩ (by dsimp only; omega) rfl
          have hem : (out ++ [(⟨i, ⟨false, t, []⟩⟩ : Bd)]).isEmpty = false := by simp
          have hbd : bds (out ++ [(⟨i, ⟨false, t, []⟩⟩ : Bd)]) = bds out ++ [.agg [.int .i64 i, .sl 1 false (ints t) []]] := by simp [bds, Bd.d]
          dsimp only
          rw [hem, hbd]
          cases t with
          | nil => simp at ht
          | cons c t =>
            by_cases ht1 : t = []
            · subst ht1
              have hne : ¬ c = -1 - (i : Int) := fun e => h0 (by rw [e])
              rw [ints_cons, ints_nil] at hcl
              simp [-Bool.exists_bool, -getElem?_pos, -Int.natCast_add, List.getElem?_cons_zero, hi', hat, hw1, ints_len, ints_cons, ints_nil, hnu, hne, hl, n1', n2']
              exact ⟨_, hcl⟩
            · have hlen : 0 < t.length := List.length_pos_iff.2 ht1
              have hlen2 : ((1 : Int) < ((c :: t).length : Nat)) := by simp; omega
              simp [-Bool.exists_bool, -getElem?_pos, -Int.natCast_add, -List.length_cons, hi', hat, hw1, ints_len, hlen2, hl, n1', n2', hcl]) x hx
theorem w_mlist {u : Bs} (hu : ∀ v t, u v = some t → 1 ≤ t.length ∧ t.length ≤ 1000) : C 41 [bM u] = some (.own (listF u 24 0).isEmpty 94 2 (bds (listF u 24 0)), [bM u]) := by
  refine wfn (lk := [0]) rfl rfl (fnW_way (q41 _ _ (bsD u) _) ?_)
  have h1 := l_mlist hu ([], 0) ⟨Nat.zero_le _, Nat.zero_le _, rfl⟩
  exact ⟨_, _, _, _, h1, rfl⟩
end Go.Proofs.YtollbcdhmnnjeaaDoor.Ab

/- A row that is rewritten: what Rewrite and Match hand back. For every input; no condition. -/
set_option linter.unusedVariables false
set_option linter.unusedSimpArgs false
set_option maxRecDepth 100000
namespace Go.Proofs.YtollbcdhmnnjeaaDoor.Ab
open Go Go.Ab Go.Qu Go.Proofs
attribute [local simp] and_assoc
theorem grow_to {g : List Sym} {s u : Bs} {a b : List Int} (h : growF g s a b = some u) : (growL g s a b).1 = u := by
  rw [grow_L] at h
  rcases hg : growL g s a b with ⟨v, q⟩
  rw [hg] at h
  match q, h with
  | some [], h => exact Option.some.inj h
/-- The table of nothing. -/
abbrev bN : IV := bM (fun _ => none)
theorem bN_eq : (IV.dbox 73 0 [D.sl 1 true [] [], D.sl 1 true [] [], D.sl 1 true [] [], D.sl 1 true [] [], D.sl 1 true [] [], D.sl 1 true [] [], D.sl 1 true [] [], D.sl 1 true [] [], D.sl 1 true [] [], D.sl 1 true [] [], D.sl 1 true [] [], D.sl 1 true [] [], D.sl 1 true [] [], D.sl 1 true [] [], D.sl 1 true [] [], D.sl 1 true [] [], D.sl 1 true [] [], D.sl 1 true [] [], D.sl 1 true [] [], D.sl 1 true [] [], D.sl 1 true [] [], D.sl 1 true [] [], D.sl 1 true [] [], D.sl 1 true [] []]) = bN := rfl
theorem list_ok {g : List Sym} {L t : List Int} {u : Bs} (h : growF g (fun _ => none) L t = some u) {n : Nat} (hn : t.length ≤ n) : ∀ v s, u v = some s → 1 ≤ s.length ∧ s.length ≤ n := by
  intro v s e
  obtain ⟨_, _, h3, _⟩ := grow_sound h
  refine ⟨?_, ?_⟩
  · rcases h3 v s e with h5 | h5
    · cases h5
    · exact (lenN_le h5).2
  · rcases grow_len h v s e with h5 | h5
    · cases h5
    · omega
theorem on_len48 {s : List Bd} (hs : ∀ v, (findB s v).l.length ≤ 48) : ∀ (r : List Int), (onB s r).length ≤ 48 * r.length
  | [] => by simp [onB]
  | c :: r => by
    have ih := on_len48 hs r
    have hcl : (onC s c).length ≤ 48 := by
      unfold onC
      split
      · simp
      · split
        · simp
        · exact hs _
    rw [onB, List.length_append, List.length_cons]; omega
section
variable {g : List Sym} (hg : SigOk g) (z zL zR : Bool) (e eL eR : List D) {L R : List Int} (hL : One g L) (hR : One g R) (hL48 : L.length ≤ 48) (hR48 : R.length ≤ 48)
include hg hL hR hL48 hR48
theorem hit_calls {out : List Int} (ho : out.length ≤ 48) {i k : Nat} (hk : lenN g (out.drop i) 1 = some k) :
    (hitF g L R out i = none → ∃ u0 : Bs, C 40 [bN, iG z g e, iS zL L eL, iS false ((out.drop i).take k) []] = some (iB false, [bM u0, iG z g e, iS zL L eL, iS false ((out.drop i).take k) []])) ∧
    (∀ o, hitF g L R out i = some o → ∃ (u : Bs) (lz oz : Bool) (on : List Int), C 40 [bN, iG z g e, iS zL L eL, iS false ((out.drop i).take k) []] = some (iB true, [bM u, iG z g e, iS zL L eL, iS false ((out.drop i).take k) []]) ∧
      C 41 [bM u] = some (.own lz 94 2 (bds (listF u 24 0)), [bM u]) ∧
      C 48 [.d (.sl 2 lz (bds (listF u 24 0)) []), iS zR R eR] = some (.own oz 3 1 (ints on), [.d (.sl 2 lz (bds (listF u 24 0)) []), iS zR R eR]) ∧
      C 47 [D3 false oz false (out.take i) on (out.drop (i + k)) [] [] []] = some (.own false 3 1 (ints o), [D3 false oz false (out.take i) on (out.drop (i + k)) [] [] []])) := by
  have hle := lenN_le hk
  simp only [List.length_drop] at hle
  have hgr := w_mgrow hg z zL false e eL [] (a := L) (b := (out.drop i).take k) (by omega) (by simp; omega) (by simp) (one_24 hL) (s := fun _ => none) (fun v t h => by cases h)
  refine ⟨fun h => ?_, fun o h => ?_⟩
  · unfold hitF at h
    rw [hk] at h
    dsimp only at h
    cases hu : growF g (fun _ => none) L ((out.drop i).take k) with
    | none => rw [hu] at hgr; exact ⟨_, hgr⟩
    | some u => rw [hu] at h; cases h
  · unfold hitF at h
    rw [hk] at h
    dsimp only at h
    cases hu : growF g (fun _ => none) L ((out.drop i).take k) with
    | none => rw [hu] at h; cases h
    | some u =>
      rw [hu] at h hgr
      simp only [Option.some.injEq] at h
      rw [grow_to hu] at hgr
      have hok := list_ok hu (n := 48) (by simp; omega)
      have h48 := list_le (u := u) (n := 48) (fun v t h => (hok v t h).2)
      have hml := w_mlist (u := u) (fun v t h => by have := hok v t h; omega)
      have hon := w_on48 h48 (show LenB (listF u 24 0) by have := listF_len u 24 0; unfold LenB; omega) (r := R) (by omega) (fun c hc => by
        have h1 := one_24 hR c hc
        have h2 := (one_codes hR).2 c hc
        have h3 := hg.hi
        omega) (listF u 24 0).isEmpty zR [] eR
      have hol := on_len48 h48 R
      have hcc := w_concat3 (a := out.take i) (b := onB (listF u 24 0) R) (c := out.drop (i + k)) (by simp; omega) (by omega) (by simp; omega) false (onB (listF u 24 0) R).isEmpty false [] [] []
      refine ⟨u, _, _, _, hgr, hml, hon, ?_⟩
      rw [h] at hcc
      have hpos : 1 ≤ o.length := by
        have h1 := on_list (u := u) (one_24 hR)
        have h2 : 1 ≤ R.length := (lenN_le hR).2
        have h3 : 1 ≤ (onB (listF u 24 0) R).length := by
          cases R with
          | nil => simp at h2
          | cons c R =>
            rw [onB, List.length_append]
            have : 1 ≤ (onC (listF u 24 0) c).length := by
              unfold onC
              split
              · simp
              · rename_i h0
                have h24 := one_24 hR c (by simp)
                have e0 : (-1 - c) = ((vN c : Nat) : Int) := by unfold vN; omega
                have hlt : 0 ≤ vN c ∧ vN c < 0 + 24 := by unfold vN; omega
                have hf := find_listF u 24 0 (vN c)
                rw [if_pos hlt] at hf
                rw [e0, hf]
                cases hv : u (vN c) with
                | none => simp
                | some t =>
                  have := hok _ _ hv
                  dsimp only
                  split
                  · split <;> simp_all
                  · split <;> simp_all
            omega
        rw [← h]; simp; omega
      have : ¬ (o.length : Int) = 0 := by omega
      rw [decide_eq_false this] at hcc
      exact hcc
/-- What comes of a row at a place. -/
abbrev stR (zo : Bool) (out : List Int) (t i : Int) : Sl := [(0, iG z g e), (4, .dbox 25 0 [.sl 1 zL (ints L) eL, .sl 1 zR (ints R) eR]), (9, iS zo out []), (10, iI t), (11, iI i)]
omit hg hL hR hL48 hR48 in
def postR (x : Option (List Int × Nat)) (o : Out) : Prop := match x with
  | some (y, k) => ∃ zy : Bool, (zy = true → y = []) ∧ o = .ret [(6, iS zy y []), (7, iI k), (8, iB true)]
  | none => o = .ret [(6, iS true [] []), (7, iI 0), (8, iB false)]
theorem l_rewrite (hsub : ∀ c ∈ R, c < 0 → c ∈ L) {n : Nat} : ∀ x : (Bool × List Int) × Nat × Nat, ((x.1.1 = true → x.1.2 = []) ∧ x.1.2.length ≤ 48 ∧ x.2.1 ≤ 100 ∧ x.2.2 ≤ x.1.2.length ∧ lenN g x.1.2 n = some x.1.2.length) →
    ∃ o, evG (JW F d23 []) d23 [1, 0] 0 [(0, iG z g e), (4, .dbox 25 0 [.sl 1 zL (ints L) eL, .sl 1 zR (ints R) eR]), (9, iS x.1.1 x.1.2 []), (10, iI x.2.1), (11, iI x.2.2)] = some o ∧ postR (rwX g L R (x.1.2, x.2.1, x.2.2)) o :=
  label_rule (F := F) (d := d23) (lk := []) (p := [1, 0]) (fun _ => 0) (fun (x : (Bool × List Int) × Nat × Nat) => [(0, iG z g e), (4, .dbox 25 0 [.sl 1 zL (ints L) eL, .sl 1 zR (ints R) eR]), (9, iS x.1.1 x.1.2 []), (10, iI x.2.1), (11, iI x.2.2)]) _ (fun x => (100 - x.2.1) * 50 + (x.1.2.length - x.2.2)) (fun x o => postR (rwX g L R (x.1.2, x.2.1, x.2.2)) o) (fun _ _ => by decide +kernel) (fun x hx => by
    obtain ⟨⟨zo, out⟩, t, i⟩ := x
    obtain ⟨h1, h2, h3, h4, h5⟩ := hx
    dsimp only at h1 h2 h3 h4 h5 ⊢
    by_cases hi : i < out.length
    rotate_left
    · have e0 : i = out.length := by omega
      subst e0
      refine .inr ⟨.ret [(6, iS zo out []), (7, iI t), (8, iB true)], wpR_way (q23_l1000000a _ _ z (syms g) e zL (ints L) eL zR (ints R) eR zo (ints out) [] t out.length _) ?_, rfl, ?_⟩
      · exact condW_t (by rw [ints_len]; simp) rfl
      · rw [rwX_end hi]; exact ⟨zo, h1, rfl⟩
    have hzo : zo = false := by
      cases zo with
      | false => rfl
      | true => have := h1 rfl; subst this; simp at hi
    subst hzo
    obtain ⟨k, hk⟩ := lenN_inner h5 i hi
    have hle := lenN_le hk
    simp only [List.length_drop] at hle
    have hsk := w_skip hg z false e [] (r := out) (by omega) i
    rw [skB, skV, hk] at hsk
    obtain ⟨c1, c2⟩ := hit_calls hg z zL zR e eL eR hL hR hL48 hR48 h2 hk
    have hne : ((i : Int) == ((ints out).length : Int)) = false := by rw [ints_len]; simp; omega
    have hpc : List.drop (Int.toNat (i : Int)) (tkX (Int.toNat ((i + k : Nat) : Int)) (ints out) []) = ints ((out.drop i).take k) := by
      rw [Int.toNat_natCast, Int.toNat_natCast, tkX_ints (by omega), ints_drop, List.drop_take, Nat.add_sub_cancel_left]
    have hpa : tkX (Int.toNat (i : Int)) (ints out) [] = ints (out.take i) := by rw [Int.toNat_natCast, tkX_ints (by omega)]
    have hpz : List.drop (Int.toNat ((i + k : Nat) : Int)) (ints out) = ints (out.drop (i + k)) := by rw [Int.toNat_natCast, ints_drop]
    have b1 : decide ((0 : Int) ≤ (i : Int)) = true := by simp
    have b2 : decide ((i : Int) ≤ ((i + k : Nat) : Int)) = true := by simp; omega
    have b3 : decide (((i + k : Nat) : Int) ≤ (((ints out).length + ([] : List D).length : Nat) : Int)) = true := by rw [ints_len]; simp; omega
    have b4 : decide ((i : Int) ≤ (((ints out).length + ([] : List D).length : Nat) : Int)) = true := by rw [ints_len]; simp; omega
    have b5 : decide ((0 : Int) ≤ ((i + k : Nat) : Int)) = true := by simp; omega
    have b6 : decide (((i + k : Nat) : Int) ≤ ((ints out).length : Int)) = true := by rw [ints_len]; simp; omega
    cases hh : hitF g L R out i with
    | none =>
      obtain ⟨u0, c1⟩ := c1 hh
      refine .inl ⟨((false, out), t, i + 1), wpR_way (q23_l1000000a _ _ z (syms g) e zL (ints L) eL zR (ints R) eR false (ints out) [] t i _) ?_, ⟨h1, h2, h3, hi, h5⟩, by dsimp only; omega, fun o ho => by rw [rwX_no hi h2 h3 hh]; exact ho⟩
      refine condW_f hne ⟨_, _, _, _, _, hsk, condW_t rfl (condW_t b1 (condW_t b2 (condW_t b3 ?_)))⟩
      rw [bN_eq, hpc]
      refine ⟨_, _, _, _, _, c1, condW_f rfl ?_⟩
      rw [wr1 hi (by omega)]
    | some o =>
      obtain ⟨u, lz, oz, on, k1, k2, k3, k4⟩ := c2 o hh
      by_cases ht : t = 100
      · subst ht
        refine .inr ⟨.ret [(6, iS true [] []), (7, iI 0), (8, iB false)], wpR_way (q23_l1000000a _ _ z (syms g) e zL (ints L) eL zR (ints R) eR false (ints out) [] (100 : Nat) i _) ?_, rfl, ?_⟩
        · refine condW_f hne ⟨_, _, _, _, _, hsk, condW_t rfl (condW_t b1 (condW_t b2 (condW_t b3 ?_)))⟩
          rw [bN_eq, hpc]
          exact ⟨_, _, _, _, _, k1, condW_t rfl (condW_t rfl rfl)⟩
        · rw [rwX_yes hi h2 h3 hh, if_pos rfl]; rfl
      have ht2 : ((t : Int) == 100) = false := by simp; omega
      have hol : (ints o).length = o.length := ints_len o
      by_cases hl : 48 < o.length
      · refine .inr ⟨.ret [(6, iS true [] []), (7, iI 0), (8, iB false)], wpR_way (q23_l1000000a _ _ z (syms g) e zL (ints L) eL zR (ints R) eR false (ints out) [] t i _) ?_, rfl, ?_⟩
        · refine condW_f hne ⟨_, _, _, _, _, hsk, condW_t rfl (condW_t b1 (condW_t b2 (condW_t b3 ?_)))⟩
          rw [bN_eq, hpc]
          refine ⟨_, _, _, _, _, k1, condW_t rfl (condW_f ht2 (condW_t b1 (condW_t b4 ⟨_, _, _, k2, _, _, _, _, k3, condW_t b5 (condW_t b6 ?_)⟩)))⟩
          rw [hpa, hpz]
          exact ⟨_, _, _, k4, condW_t (by rw [ints_len]; simp; omega) rfl⟩
        · rw [rwX_yes hi h2 h3 hh, if_neg ht, if_pos hl]; rfl
      · have hstep : lenN g o n = some o.length := by
          obtain ⟨p, s, tt, q, e1, e2, hs, ho, hp⟩ := hit_row hg hL hR hsub hh
          have hs1 := lenN_le hs
          rw [e1] at h5
          obtain ⟨m, _, _, h6⟩ := repl_lenN hs ho h5 (by simp; omega)
          rw [e2, h6]; simp; omega
        refine .inl ⟨((false, o), t + 1, 0), wpR_way (q23_l1000000a _ _ z (syms g) e zL (ints L) eL zR (ints R) eR false (ints out) [] t i _) ?_, ⟨by simp, by dsimp only; omega, by dsimp only; omega, Nat.zero_le _, hstep⟩, by dsimp only; omega, fun o' ho' => by rw [rwX_yes hi h2 h3 hh, if_neg ht, if_neg hl]; exact ho'⟩
        refine condW_f hne ⟨_, _, _, _, _, hsk, condW_t rfl (condW_t b1 (condW_t b2 (condW_t b3 ?_)))⟩
        rw [bN_eq, hpc]
        refine ⟨_, _, _, _, _, k1, condW_t rfl (condW_f ht2 (condW_t b1 (condW_t b4 ⟨_, _, _, k2, _, _, _, _, k3, condW_t b5 (condW_t b6 ?_)⟩)))⟩
        rw [hpa, hpz]
        refine ⟨_, _, _, k4, condW_f (by rw [ints_len]; simp; omega) ?_⟩
        rw [wr1 (show t < 100 by omega) (by omega)]
        rfl)
omit hg hL hR hL48 hR48 in
def postV (x : Option (List Int × Nat)) (v : IV) : Prop := match x with
  | some (y, k) => ∃ zy : Bool, (zy = true → y = []) ∧ v = .tup [iS zy y [], iI k, iB true]
  | none => v = .tup [iS true [] [], iI 0, iB false]
theorem w_rewrite (hsub : ∀ c ∈ R, c < 0 → c ∈ L) {n : Nat} {r : List Int} (hr : r.length ≤ 48) (hn : lenN g r n = some r.length) (zr : Bool) (hz : zr = true → r = []) (er : List D) :
    ∃ v, C 23 [iG z g e, .d (.agg [.sl 1 zL (ints L) eL, .sl 1 zR (ints R) eR]), iS zr r er] = some (v, [iG z g e, .d (.agg [.sl 1 zL (ints L) eL, .sl 1 zR (ints R) eR]), iS zr r er]) ∧ postV (rwX g L R (r, 0, 0)) v := by
  have hcl := w_clone (t := r) (by unfold Len; omega) zr hz er
  by_cases hi : 0 < r.length
  rotate_left
  · have e0 : r = [] := List.length_eq_zero_iff.1 (by omega)
    subst e0
    refine ⟨.tup [iS zr [] [], iI 0, iB true], wfn (lk := []) rfl rfl (fnW_way (q23 _ _ z (syms g) e zL (ints L) eL zR (ints R) eR zr (ints []) er _) ⟨_, _, _, hcl, condW_t rfl rfl⟩), ?_⟩
    rw [rwX_end (by simp)]
    exact ⟨zr, hz, rfl⟩
  have hzo : zr = false := by
    cases zr with
    | false => rfl
    | true => have := hz rfl; subst this; simp at hi
  subst hzo
  have l1 := l_rewrite hg z zL zR e eL eR hL hR hL48 hR48 hsub (n := n)
  obtain ⟨k, hk⟩ := lenN_inner hn 0 hi
  have hle := lenN_le hk
  simp only [List.length_drop] at hle
  have hsk := w_skip hg z false e [] (r := r) (by omega) 0
  rw [skB, skV, hk] at hsk
  dsimp only at hsk
  rw [Nat.zero_add] at hsk
  obtain ⟨c1, c2⟩ := hit_calls hg z zL zR e eL eR hL hR hL48 hR48 hr hk
  have hne : ((0 : Int) == ((ints r).length : Int)) = false := by rw [ints_len]; simp; omega
  have hpc : List.drop (Int.toNat 0) (List.take (Int.toNat ((k : Nat) : Int)) (ints r)) = ints ((r.drop 0).take k) := by
    rw [Int.toNat_natCast, ints_take]; rfl
  have hpz : List.drop (Int.toNat ((k : Nat) : Int)) (ints r) = ints (r.drop (0 + k)) := by rw [Int.toNat_natCast, ints_drop, Nat.zero_add]
  have b1 : decide ((0 : Int) ≤ ((k : Nat) : Int)) = true := by simp
  have b3 : decide (((k : Nat) : Int) ≤ (((ints r).length + 0 : Nat) : Int)) = true := by rw [ints_len]; simp; omega
  have b6 : decide (((k : Nat) : Int) ≤ ((ints r).length : Int)) = true := by rw [ints_len]; simp; omega
  cases hh : hitF g L R r 0 with
  | none =>
    obtain ⟨u0, c1⟩ := c1 hh
    obtain ⟨o, h1, h2⟩ := l1 ((false, r), 0, 1) ⟨by simp, hr, Nat.zero_le _, hi, hn⟩
    rw [rwX_no hi hr (by omega) hh]
    dsimp only at h1 h2
    have key : ∀ v : IV, (∃ (w28 : Bool) (w29 w30 : List D) (w31 : Int) (w32 : Bool), evG (JW F d23 []) d23 [1, 0] 0 [(0, iG z g e), (4, .dbox 25 0 [.sl 1 zL (ints L) eL, .sl 1 zR (ints R) eR]), (9, iS false r []), (10, iI 0), (11, iI 1)] = some (.ret [(6, .d (.sl 1 w28 w29 w30)), (7, iI w31), (8, iB w32)]) ∧ v = .tup [.d (.sl 1 w28 w29 w30), iI w31, iB w32]) → C 23 [iG z g e, .d (.agg [.sl 1 zL (ints L) eL, .sl 1 zR (ints R) eR]), iS false r er] = some (v, [iG z g e, .d (.agg [.sl 1 zL (ints L) eL, .sl 1 zR (ints R) eR]), iS false r er]) := fun v hv => by
      obtain ⟨w28, w29, w30, w31, w32, hv, rfl⟩ := hv
      refine wfn (lk := []) rfl rfl (fnW_way (q23 _ _ z (syms g) e zL (ints L) eL zR (ints R) eR false (ints r) er _) ⟨_, _, _, hcl, condW_f hne ⟨_, _, _, _, _, hsk, condW_t rfl (condW_t b1 (condW_t b3 ?_))⟩⟩)
      rw [bN_eq, hpc]
      exact ⟨_, _, _, _, _, c1, condW_f rfl ⟨_, _, _, _, _, hv, rfl⟩⟩
    cases hx : rwX g L R (r, 0, 0 + 1) with
    | none =>
      rw [hx] at h2
      cases h2
      exact ⟨_, key _ ⟨_, _, _, _, _, h1, rfl⟩, rfl⟩
    | some p =>
      obtain ⟨y, m⟩ := p
      rw [hx] at h2
      obtain ⟨zy, h3, rfl⟩ := h2
      exact ⟨_, key _ ⟨_, _, _, _, _, h1, rfl⟩, zy, h3, rfl⟩
  | some o =>
    obtain ⟨u, lz, oz, on, k1, k2, k3, k4⟩ := c2 o hh
    rw [rwX_yes hi hr (by omega) hh, if_neg (by omega)]
    by_cases hl : 48 < o.length
    · rw [if_pos hl]
      refine ⟨.tup [iS true [] [], iI 0, iB false], wfn (lk := []) rfl rfl (fnW_way (q23 _ _ z (syms g) e zL (ints L) eL zR (ints R) eR false (ints r) er _) ⟨_, _, _, hcl, condW_f hne ⟨_, _, _, _, _, hsk, condW_t rfl (condW_t b1 (condW_t b3 ?_))⟩⟩), rfl⟩
      rw [bN_eq, hpc]
      refine ⟨_, _, _, _, _, k1, condW_t rfl ⟨_, _, _, k2, _, _, _, _, k3, condW_t b1 (condW_t b6 ?_)⟩⟩
      rw [hpz]
      exact ⟨_, _, _, k4, condW_t (by rw [ints_len]; simp; omega) rfl⟩
    · rw [if_neg hl]
      have hstep : lenN g o n = some o.length := by
        obtain ⟨p, s, tt, q, e1, e2, hs, ho, hp⟩ := hit_row hg hL hR hsub hh
        have hs1 := lenN_le hs
        rw [e1] at hn
        obtain ⟨m, _, _, h6⟩ := repl_lenN hs ho hn (by simp; omega)
        rw [e2, h6]; simp; omega
      obtain ⟨o', h1, h2⟩ := l1 ((false, o), 1, 0) ⟨by simp, by dsimp only; omega, show 1 ≤ 100 by omega, Nat.zero_le _, hstep⟩
      dsimp only at h1 h2
      have key : ∀ v : IV, (∃ (w28 : Bool) (w29 w30 : List D) (w31 : Int) (w32 : Bool), evG (JW F d23 []) d23 [1, 0] 0 [(0, iG z g e), (4, .dbox 25 0 [.sl 1 zL (ints L) eL, .sl 1 zR (ints R) eR]), (9, iS false o []), (10, iI 1), (11, iI 0)] = some (.ret [(6, .d (.sl 1 w28 w29 w30)), (7, iI w31), (8, iB w32)]) ∧ v = .tup [.d (.sl 1 w28 w29 w30), iI w31, iB w32]) → C 23 [iG z g e, .d (.agg [.sl 1 zL (ints L) eL, .sl 1 zR (ints R) eR]), iS false r er] = some (v, [iG z g e, .d (.agg [.sl 1 zL (ints L) eL, .sl 1 zR (ints R) eR]), iS false r er]) := fun v hv => by
        obtain ⟨w28, w29, w30, w31, w32, hv, rfl⟩ := hv
        refine wfn (lk := []) rfl rfl (fnW_way (q23 _ _ z (syms g) e zL (ints L) eL zR (ints R) eR false (ints r) er _) ⟨_, _, _, hcl, condW_f hne ⟨_, _, _, _, _, hsk, condW_t rfl (condW_t b1 (condW_t b3 ?_))⟩⟩)
        rw [bN_eq, hpc]
        refine ⟨_, _, _, _, _, k1, condW_t rfl ⟨_, _, _, k2, _, _, _, _, k3, condW_t b1 (condW_t b6 ?_)⟩⟩
        rw [hpz]
        exact ⟨_, _, _, k4, condW_f (by rw [ints_len]; simp; omega) ⟨_, _, _, _, _, hv, rfl⟩⟩
      cases hx : rwX g L R (o, 0 + 1, 0) with
      | none =>
        rw [hx] at h2
        cases h2
        exact ⟨_, key _ ⟨_, _, _, _, _, h1, rfl⟩, rfl⟩
      | some p =>
        obtain ⟨y, m⟩ := p
        rw [hx] at h2
        obtain ⟨zy, h3, rfl⟩ := h2
        exact ⟨_, key _ ⟨_, _, _, _, _, h1, rfl⟩, zy, h3, rfl⟩
end
/-- What Rewrite hands back. -/
def postW (g : List Sym) (L R r : List Int) (v : IV) : Prop :=
  if (ruB g L R && rowB g r) = true then (match rwX g L R (r, 0, 0) with
    | some (y, k) => ∃ zy : Bool, (zy = true → y = []) ∧ v = .tup [iS zy y [], iI k, iI 0]
    | none => v = .tup [iS true [] [], iI 0, iI 1601])
  else v = .tup [iS true [] [], iI 0, iI 1600]
theorem w_srewrite (z zL zR zr : Bool) (g : List Sym) (e eL eR er : List D) (L R r : List Int) (hzL : zL = true → L = []) (hzR : zR = true → R = []) (hz : zr = true → r = []) :
    ∃ v, C 8 [iG z g e, .d (.agg [.sl 1 zL (ints L) eL, .sl 1 zR (ints R) eR]), iS zr r er] = some (v, [iG z g e, .d (.agg [.sl 1 zL (ints L) eL, .sl 1 zR (ints R) eR]), iS zr r er]) ∧ postW g L R r v := by
  have h1 := w_rewritemay z zL zR g e eL eR L R hzL hzR
  unfold postW
  cases hru : ruB g L R with
  | false =>
    rw [hru] at h1
    exact ⟨_, wfn (lk := []) rfl rfl (fnW_way (q8 _ _ z (syms g) e zL (ints L) eL zR (ints R) eR zr (ints r) er _) ⟨_, _, _, h1, condW_f rfl rfl⟩), by simp [ints_nil]⟩
  | true =>
    rw [hru] at h1
    have h2 := w_isrow z zr g e er r
    cases hro : rowB g r with
    | false =>
      rw [hro] at h2
      exact ⟨_, wfn (lk := []) rfl rfl (fnW_way (q8 _ _ z (syms g) e zL (ints L) eL zR (ints R) eR zr (ints r) er _) ⟨_, _, _, h1, condW_t rfl ⟨_, _, _, h2, condW_f rfl rfl⟩⟩), by simp [ints_nil]⟩
    | true =>
      rw [hro] at h2
      obtain ⟨hg, hL, hR, l1, l2, hm⟩ := ru_more hru
      obtain ⟨_, hr, ts, h3, _⟩ := rowB_parts hro
      have hn := parts_all _ (Nat.le_refl _) h3
      obtain ⟨v, h4, h5⟩ := w_rewrite hg z zL zR e eL eR hL hR l1 l2 (more_sub hR hm) hr hn zr hz er
      simp only [Bool.and_self, if_true]
      cases hx : rwX g L R (r, 0, 0) with
      | none =>
        rw [hx] at h5
        cases h5
        exact ⟨_, wfn (lk := []) rfl rfl (fnW_way (q8 _ _ z (syms g) e zL (ints L) eL zR (ints R) eR zr (ints r) er _) ⟨_, _, _, h1, condW_t rfl ⟨_, _, _, h2, condW_t rfl ⟨_, _, _, _, _, _, _, _, h4, condW_f rfl rfl⟩⟩⟩), rfl⟩
      | some p =>
        obtain ⟨y, m⟩ := p
        rw [hx] at h5
        obtain ⟨zy, h6, rfl⟩ := h5
        exact ⟨_, wfn (lk := []) rfl rfl (fnW_way (q8 _ _ z (syms g) e zL (ints L) eL zR (ints R) eR zr (ints r) er _) ⟨_, _, _, h1, condW_t rfl ⟨_, _, _, h2, condW_t rfl ⟨_, _, _, _, _, _, _, _, h4, condW_t rfl rfl⟩⟩⟩), zy, h6, rfl⟩
end Go.Proofs.YtollbcdhmnnjeaaDoor.Ab

/- Written by a program of this session (wip/tools/AbSym.lean). Not trusted: Lean checks it. -/
set_option maxRecDepth 100000
set_option linter.unusedVariables false
namespace Go.Proofs.YtollbcdhmnnjeaaDoor.Ab
open Go Go.Ab Go.Proofs
theorem q55_l0bn (C J) (z1 : Bool) (x2 : List D) (e3 : List D) (z4 : Bool) (x5 : List D) (e6 : List D) (z7 : Bool) (x8 : List D) (e9 : List D) (z10 : Bool) (x11 : List D) (z12 : Bool) (x13 : List D) (z14 : Bool) (x15 : List D) (z16 : Bool) (x17 : List D) (e18 : List D) (i19 : Int) (i20 : Int) (Q) : wpQ F C R (L55) J d55 [] [1,1,0,1,0,0] [(1, .d (.fn 34)), (2, .dbox 39 0 [.sl 2 z1 x2 e3, .sl 1 z4 x5 e6, .sl 2 z7 x8 e9]), (4, .dbox 39 0 [.sl 2 true [] [], .sl 1 true [] [], .sl 2 true [] []]), (5, .ptr 39 0 [.own z10 35 2 x11, .own z12 23 1 x13, .own z14 35 2 x15]), (13, .d (.sl 2 z16 x17 e18)), (14, .d (.int .i64 i19)), (15, .d (.int .i64 i20))] Q = (condW (decide (i20 < i19)) (condW (decide (0 ≤ i20)) (∃ w0 w1 w2 w3, x17[Int.toNat i20]? = some (D.agg [D.bool w0, D.sl 1 w1 w2 w3]) ∧ condW w0 (∃ w4 w5 w6, C 34 [IV.d (D.sl 1 w1 w2 w3)] = some (IV.own w4 3 1 w5, [IV.d w6]) ∧ condW (decide (List.length x11 + (0 + 1) ≤ 9223372036854775807)) (condW (decide ((List.length x11 + (0 + 1)) * 32 ≤ 140737488355328)) (Q (Out.norm [(1, IV.d (D.fn 34)), (2, IV.dbox 39 0 [D.sl 2 z1 x2 e3, D.sl 1 z4 x5 e6, D.sl 2 z7 x8 e9]), (4, IV.dbox 39 0 [D.sl 2 true [] [], D.sl 1 true [] [], D.sl 2 true [] []]), (5, IV.ptr 39 0 [IV.own (z10 && false) 35 2 (x11 ++ [D.agg [D.bool true, D.sl 1 w4 w5 []]]), IV.own z12 23 1 x13, IV.own z14 35 2 x15]), (13, IV.d (D.sl 2 z16 x17 e18)), (14, IV.d (D.int IntKind.i64 i19)), (15, IV.d (D.int IntKind.i64 (IntKind.wrap IntKind.i64 (i20 + 1))))])) False) False) (∃ w7 w8 w9, C 34 [IV.d (D.sl 1 w1 w2 w3)] = some (IV.own w7 3 1 w8, [IV.d w9]) ∧ condW (decide (List.length x11 + (0 + 1) ≤ 9223372036854775807)) (condW (decide ((List.length x11 + (0 + 1)) * 32 ≤ 140737488355328)) (Q (Out.norm [(1, IV.d (D.fn 34)), (2, IV.dbox 39 0 [D.sl 2 z1 x2 e3, D.sl 1 z4 x5 e6, D.sl 2 z7 x8 e9]), (4, IV.dbox 39 0 [D.sl 2 true [] [], D.sl 1 true [] [], D.sl 2 true [] []]), (5, IV.ptr 39 0 [IV.own (z10 && false) 35 2 (x11 ++ [D.agg [D.bool false, D.sl 1 w7 w8 []]]), IV.own z12 23 1 x13, IV.own z14 35 2 x15]), (13, IV.d (D.sl 2 z16 x17 e18)), (14, IV.d (D.int IntKind.i64 i19)), (15, IV.d (D.int IntKind.i64 (IntKind.wrap IntKind.i64 (i20 + 1))))])) False) False)) False) (Q (Out.exit 0 [(1, IV.d (D.fn 34)), (2, IV.dbox 39 0 [D.sl 2 z1 x2 e3, D.sl 1 z4 x5 e6, D.sl 2 z7 x8 e9]), (4, IV.dbox 39 0 [D.sl 2 true [] [], D.sl 1 true [] [], D.sl 2 true [] []]), (5, IV.ptr 39 0 [IV.own z10 35 2 x11, IV.own z12 23 1 x13, IV.own z14 35 2 x15]), (13, IV.d (D.sl 2 z16 x17 e18)), (14, IV.d (D.int IntKind.i64 i19)), (15, IV.d (D.int IntKind.i64 i20))]))) := by kernel_rfl
theorem q55_l2bn (C J) (z1 : Bool) (x2 : List D) (e3 : List D) (z4 : Bool) (x5 : List D) (e6 : List D) (z7 : Bool) (x8 : List D) (e9 : List D) (z10 : Bool) (x11 : List D) (z12 : Bool) (x13 : List D) (z14 : Bool) (x15 : List D) (z16 : Bool) (x17 : List D) (e18 : List D) (i19 : Int) (i20 : Int) (Q) : wpQ F C R (L55) J d55 [] [1,1,1,0,1,0,0] [(1, .d (.fn 34)), (2, .dbox 39 0 [.sl 2 z1 x2 e3, .sl 1 z4 x5 e6, .sl 2 z7 x8 e9]), (4, .dbox 39 0 [.sl 2 true [] [], .sl 1 true [] [], .sl 2 true [] []]), (5, .ptr 39 0 [.own z10 35 2 x11, .own z12 23 1 x13, .own z14 35 2 x15]), (33, .d (.sl 1 z16 x17 e18)), (34, .d (.int .i64 i19)), (35, .d (.int .i64 i20))] Q = (condW (decide (i20 < i19)) (condW (decide (0 ≤ i20)) (∃ w0 w1 w2, x17[Int.toNat i20]? = some (D.sl 1 w0 w1 w2) ∧ ∃ w3 w4 w5, C 34 [IV.d (D.sl 1 w0 w1 w2)] = some (IV.own w3 3 1 w4, [IV.d w5]) ∧ condW (decide (List.length x13 + (0 + 1) ≤ 9223372036854775807)) (condW (decide ((List.length x13 + (0 + 1)) * 24 ≤ 140737488355328)) (Q (Out.norm [(1, IV.d (D.fn 34)), (2, IV.dbox 39 0 [D.sl 2 z1 x2 e3, D.sl 1 z4 x5 e6, D.sl 2 z7 x8 e9]), (4, IV.dbox 39 0 [D.sl 2 true [] [], D.sl 1 true [] [], D.sl 2 true [] []]), (5, IV.ptr 39 0 [IV.own z10 35 2 x11, IV.own (z12 && false) 23 1 (x13 ++ [D.sl 1 w3 w4 []]), IV.own z14 35 2 x15]), (33, IV.d (D.sl 1 z16 x17 e18)), (34, IV.d (D.int IntKind.i64 i19)), (35, IV.d (D.int IntKind.i64 (IntKind.wrap IntKind.i64 (i20 + 1))))])) False) False) False) (Q (Out.exit 2 [(1, IV.d (D.fn 34)), (2, IV.dbox 39 0 [D.sl 2 z1 x2 e3, D.sl 1 z4 x5 e6, D.sl 2 z7 x8 e9]), (4, IV.dbox 39 0 [D.sl 2 true [] [], D.sl 1 true [] [], D.sl 2 true [] []]), (5, IV.ptr 39 0 [IV.own z10 35 2 x11, IV.own z12 23 1 x13, IV.own z14 35 2 x15]), (33, IV.d (D.sl 1 z16 x17 e18)), (34, IV.d (D.int IntKind.i64 i19)), (35, IV.d (D.int IntKind.i64 i20))]))) := by kernel_rfl
theorem q55_l4bn (C J) (z1 : Bool) (x2 : List D) (z3 : Bool) (x4 : List D) (z5 : Bool) (x6 : List D) (z7 : Bool) (x8 : List D) (e9 : List D) (i10 : Int) (i11 : Int) (Q) : wpQ F C R (L55) J d55 [] [1,1,1,1,0,1,0,0] [(1, .d (.fn 34)), (4, .dbox 39 0 [.sl 2 true [] [], .sl 1 true [] [], .sl 2 true [] []]), (5, .ptr 39 0 [.own z1 35 2 x2, .own z3 23 1 x4, .own z5 35 2 x6]), (49, .d (.sl 2 z7 x8 e9)), (50, .d (.int .i64 i10)), (51, .d (.int .i64 i11))] Q = (condW (decide (i11 < i10)) (condW (decide (0 ≤ i11)) (∃ w0 w1 w2 w3, x8[Int.toNat i11]? = some (D.agg [D.bool w0, D.sl 1 w1 w2 w3]) ∧ condW w0 (∃ w4 w5 w6, C 34 [IV.d (D.sl 1 w1 w2 w3)] = some (IV.own w4 3 1 w5, [IV.d w6]) ∧ condW (decide (List.length x6 + (0 + 1) ≤ 9223372036854775807)) (condW (decide ((List.length x6 + (0 + 1)) * 32 ≤ 140737488355328)) (Q (Out.norm [(1, IV.d (D.fn 34)), (4, IV.dbox 39 0 [D.sl 2 true [] [], D.sl 1 true [] [], D.sl 2 true [] []]), (5, IV.ptr 39 0 [IV.own z1 35 2 x2, IV.own z3 23 1 x4, IV.own (z5 && false) 35 2 (x6 ++ [D.agg [D.bool true, D.sl 1 w4 w5 []]])]), (49, IV.d (D.sl 2 z7 x8 e9)), (50, IV.d (D.int IntKind.i64 i10)), (51, IV.d (D.int IntKind.i64 (IntKind.wrap IntKind.i64 (i11 + 1))))])) False) False) (∃ w7 w8 w9, C 34 [IV.d (D.sl 1 w1 w2 w3)] = some (IV.own w7 3 1 w8, [IV.d w9]) ∧ condW (decide (List.length x6 + (0 + 1) ≤ 9223372036854775807)) (condW (decide ((List.length x6 + (0 + 1)) * 32 ≤ 140737488355328)) (Q (Out.norm [(1, IV.d (D.fn 34)), (4, IV.dbox 39 0 [D.sl 2 true [] [], D.sl 1 true [] [], D.sl 2 true [] []]), (5, IV.ptr 39 0 [IV.own z1 35 2 x2, IV.own z3 23 1 x4, IV.own (z5 && false) 35 2 (x6 ++ [D.agg [D.bool false, D.sl 1 w7 w8 []]])]), (49, IV.d (D.sl 2 z7 x8 e9)), (50, IV.d (D.int IntKind.i64 i10)), (51, IV.d (D.int IntKind.i64 (IntKind.wrap IntKind.i64 (i11 + 1))))])) False) False)) False) (Q (Out.exit 4 [(1, IV.d (D.fn 34)), (4, IV.dbox 39 0 [D.sl 2 true [] [], D.sl 1 true [] [], D.sl 2 true [] []]), (5, IV.ptr 39 0 [IV.own z1 35 2 x2, IV.own z3 23 1 x4, IV.own z5 35 2 x6]), (49, IV.d (D.sl 2 z7 x8 e9)), (50, IV.d (D.int IntKind.i64 i10)), (51, IV.d (D.int IntKind.i64 i11))]))) := by kernel_rfl
end Go.Proofs.YtollbcdhmnnjeaaDoor.Ab

/- A clause without the Lits that cannot be: what the program's functions hand back. For every input; no condition. -/
set_option linter.unusedVariables false
set_option linter.unusedSimpArgs false
set_option maxRecDepth 100000
namespace Go.Proofs.YtollbcdhmnnjeaaDoor.Ab
open Go Go.Ab Go.Qu Go.Proofs
attribute [local simp] and_assoc
/-! ### Copies -/
def cpL (l : LitR) : LitR := ⟨l.neg, ⟨l.r.z, l.r.l, []⟩⟩
def cpR (r : Row) : Row := ⟨r.z, r.l, []⟩
abbrev fC : IV := .d (.fn 34)
theorem l_copy0 {c : Cl} (hn : c.ls.length ≤ 1000) (hr : ∀ l ∈ c.ls, RowOk l.r) (vs : List Row) (ws : List LitR) (x : List LitR × Nat) (hx : x.2 ≤ c.ls.length ∧ x.1.length ≤ x.2 ∧ x.1 ++ (c.ls.drop x.2).map cpL = c.ls.map cpL) : evP F (Go.Ab.W F) (JW F d55 []) d55 [] [1,1,0,1] [(1, fC), (2, bC c), (4, b0), (5, bO x.1 vs ws), (13, iL c.lz c.ls c.le), (14, iI c.ls.length), (15, iI x.2)] = some (.norm [(1, fC), (2, bC c), (4, b0), (5, bO (c.ls.map cpL) vs ws), (13, iL c.lz c.ls c.le), (14, iI c.ls.length), (15, iI c.ls.length)]) :=
  blk_fun (F := F) (d := d55) (lk := []) (p := [1,1,0,1,0,0]) (p0 := [1,1,0,1]) (id := 0) (by kernel_rfl) (st := fun (x : List LitR × Nat) => [(1, fC), (2, bC c), (4, b0), (5, bO x.1 vs ws), (13, iL c.lz c.ls c.le), (14, iI c.ls.length), (15, iI x.2)]) (I := fun x => x.2 ≤ c.ls.length ∧ x.1.length ≤ x.2 ∧ x.1 ++ (c.ls.drop x.2).map cpL = c.ls.map cpL) (μ := fun x => c.ls.length - x.2)
    (res := fun x => .norm [(1, fC), (2, bC c), (4, b0), (5, bO (c.ls.map cpL) vs ws), (13, iL c.lz c.ls c.le), (14, iI c.ls.length), (15, iI c.ls.length)])
    (fun x hx => by
      obtain ⟨us, i⟩ := x
      obtain ⟨hx1, hx2, hx3⟩ := hx
      dsimp only at hx1 hx2 hx3
      by_cases hi : i < c.ls.length
      · obtain ⟨l, hl1⟩ := at_lt hi
        have hd : c.ls.drop i = l :: c.ls.drop (i + 1) := by
          rw [List.drop_eq_getElem_cons hi]
          rw [List.getElem?_eq_getElem hi] at hl1
          cases hl1; rfl
        have hok := hr l (List.mem_of_getElem? hl1)
        have hc := w_clone hok.len l.r.z hok.nil l.r.e
        have hi' : (i : Int) < c.ls.length := by omega
        rw [hd] at hx3
        refine .go (us ++ [cpL l], i + 1) (wpQ_way (q55_l0bn _ _ c.lz (lits c.ls) c.le c.tz (rws c.ts) c.te c.cz (lits c.cs) c.ce us.isEmpty (lits us) vs.isEmpty (rws vs) ws.isEmpty (lits ws) c.lz (lits c.ls) c.le c.ls.length i _) ?_) ⟨by dsimp only; omega, by simp; omega, by simpa using hx3⟩ (by dsimp only; omega) rfl
        have k1 : us.length + 1 ≤ 9223372036854775807 := by omega
        have k2 : (us.length + 1) * 32 ≤ 140737488355328 := by omega
        cases hneg : l.neg <;> simp [-Bool.exists_bool, -getElem?_pos, -Int.natCast_add, hi', lits_at hl1, hneg, hc, wr1 hi (by omega), lits_len, k1, k2, lits_append, lits_cons, lits_nil, cpL]
      · have e1 : i = c.ls.length := by omega
        subst e1
        refine .stop (.exit 0 [(1, fC), (2, bC c), (4, b0), (5, bO us vs ws), (13, iL c.lz c.ls c.le), (14, iI c.ls.length), (15, iI c.ls.length)]) (wpQ_way (q55_l0bn _ _ c.lz (lits c.ls) c.le c.tz (rws c.ts) c.te c.cz (lits c.cs) c.ce us.isEmpty (lits us) vs.isEmpty (rws vs) ws.isEmpty (lits ws) c.lz (lits c.ls) c.le c.ls.length _ _) (by simp)) rfl ?_
        rw [List.drop_length, List.map_nil, List.append_nil] at hx3
        rw [hx3]; rfl) x hx
theorem l_copy2 {c : Cl} (hn : c.ts.length ≤ 1000) (hr : ∀ r ∈ c.ts, RowOk r) (us : List LitR) (ws : List LitR) (x : List Row × Nat) (hx : x.2 ≤ c.ts.length ∧ x.1.length ≤ x.2 ∧ x.1 ++ (c.ts.drop x.2).map cpR = c.ts.map cpR) : evP F (Go.Ab.W F) (JW F d55 []) d55 [] [1,1,1,0,1] [(1, fC), (2, bC c), (4, b0), (5, bO us x.1 ws), (33, iR c.tz c.ts c.te), (34, iI c.ts.length), (35, iI x.2)] = some (.norm [(1, fC), (2, bC c), (4, b0), (5, bO us (c.ts.map cpR) ws), (33, iR c.tz c.ts c.te), (34, iI c.ts.length), (35, iI c.ts.length)]) :=
  blk_fun (F := F) (d := d55) (lk := []) (p := [1,1,1,0,1,0,0]) (p0 := [1,1,1,0,1]) (id := 2) (by kernel_rfl) (st := fun (x : List Row × Nat) => [(1, fC), (2, bC c), (4, b0), (5, bO us x.1 ws), (33, iR c.tz c.ts c.te), (34, iI c.ts.length), (35, iI x.2)]) (I := fun x => x.2 ≤ c.ts.length ∧ x.1.length ≤ x.2 ∧ x.1 ++ (c.ts.drop x.2).map cpR = c.ts.map cpR) (μ := fun x => c.ts.length - x.2)
    (res := fun x => .norm [(1, fC), (2, bC c), (4, b0), (5, bO us (c.ts.map cpR) ws), (33, iR c.tz c.ts c.te), (34, iI c.ts.length), (35, iI c.ts.length)])
    (fun x hx => by
      obtain ⟨vs, i⟩ := x
      obtain ⟨hx1, hx2, hx3⟩ := hx
      dsimp only at hx1 hx2 hx3
      by_cases hi : i < c.ts.length
      · obtain ⟨l, hl1⟩ := at_lt hi
        have hd : c.ts.drop i = l :: c.ts.drop (i + 1) := by
          rw [List.drop_eq_getElem_cons hi]
          rw [List.getElem?_eq_getElem hi] at hl1
          cases hl1; rfl
        have hok := hr l (List.mem_of_getElem? hl1)
        have hc := w_clone hok.len l.z hok.nil l.e
        have hi' : (i : Int) < c.ts.length := by omega
        rw [hd] at hx3
        refine .go (vs ++ [cpR l], i + 1) (wpQ_way (q55_l2bn _ _ c.lz (lits c.ls) c.le c.tz (rws c.ts) c.te c.cz (lits c.cs) c.ce us.isEmpty (lits us) vs.isEmpty (rws vs) ws.isEmpty (lits ws) c.tz (rws c.ts) c.te c.ts.length i _) ?_) ⟨by dsimp only; omega, by simp; omega, by simpa using hx3⟩ (by dsimp only; omega) rfl
        have k1 : vs.length + 1 ≤ 9223372036854775807 := by omega
        have k2 : (vs.length + 1) * 24 ≤ 140737488355328 := by omega
        simp [-Bool.exists_bool, -getElem?_pos, -Int.natCast_add, hi', rws_at hl1, hc, wr1 hi (by omega), rws_len, k1, k2, rws_append, rws_cons, rws_nil, cpR]
      · have e1 : i = c.ts.length := by omega
        subst e1
        refine .stop (.exit 2 [(1, fC), (2, bC c), (4, b0), (5, bO us vs ws), (33, iR c.tz c.ts c.te), (34, iI c.ts.length), (35, iI c.ts.length)]) (wpQ_way (q55_l2bn _ _ c.lz (lits c.ls) c.le c.tz (rws c.ts) c.te c.cz (lits c.cs) c.ce us.isEmpty (lits us) vs.isEmpty (rws vs) ws.isEmpty (lits ws) c.tz (rws c.ts) c.te c.ts.length _ _) (by simp)) rfl ?_
        rw [List.drop_length, List.map_nil, List.append_nil] at hx3
        rw [hx3]; rfl) x hx
theorem l_copy4 {c : Cl} (hn : c.cs.length ≤ 1000) (hr : ∀ l ∈ c.cs, RowOk l.r) (us : List LitR) (vs : List Row) (x : List LitR × Nat) (hx : x.2 ≤ c.cs.length ∧ x.1.length ≤ x.2 ∧ x.1 ++ (c.cs.drop x.2).map cpL = c.cs.map cpL) : evP F (Go.Ab.W F) (JW F d55 []) d55 [] [1,1,1,1,0,1] [(1, fC), (4, b0), (5, bO us vs x.1), (49, iL c.cz c.cs c.ce), (50, iI c.cs.length), (51, iI x.2)] = some (.norm [(1, fC), (4, b0), (5, bO us vs (c.cs.map cpL)), (49, iL c.cz c.cs c.ce), (50, iI c.cs.length), (51, iI c.cs.length)]) :=
  blk_fun (F := F) (d := d55) (lk := []) (p := [1,1,1,1,0,1,0,0]) (p0 := [1,1,1,1,0,1]) (id := 4) (by kernel_rfl) (st := fun (x : List LitR × Nat) => [(1, fC), (4, b0), (5, bO us vs x.1), (49, iL c.cz c.cs c.ce), (50, iI c.cs.length), (51, iI x.2)]) (I := fun x => x.2 ≤ c.cs.length ∧ x.1.length ≤ x.2 ∧ x.1 ++ (c.cs.drop x.2).map cpL = c.cs.map cpL) (μ := fun x => c.cs.length - x.2)
    (res := fun x => .norm [(1, fC), (4, b0), (5, bO us vs (c.cs.map cpL)), (49, iL c.cz c.cs c.ce), (50, iI c.cs.length), (51, iI c.cs.length)])
    (fun x hx => by
      obtain ⟨ws, i⟩ := x
      obtain ⟨hx1, hx2, hx3⟩ := hx
      dsimp only at hx1 hx2 hx3
      by_cases hi : i < c.cs.length
      · obtain ⟨l, hl1⟩ := at_lt hi
        have hd : c.cs.drop i = l :: c.cs.drop (i + 1) := by
          rw [List.drop_eq_getElem_cons hi]
          rw [List.getElem?_eq_getElem hi] at hl1
          cases hl1; rfl
        have hok := hr l (List.mem_of_getElem? hl1)
        have hc := w_clone hok.len l.r.z hok.nil l.r.e
        have hi' : (i : Int) < c.cs.length := by omega
        rw [hd] at hx3
        refine .go (ws ++ [cpL l], i + 1) (wpQ_way (q55_l4bn _ _ us.isEmpty (lits us) vs.isEmpty (rws vs) ws.isEmpty (lits ws) c.cz (lits c.cs) c.ce c.cs.length i _) ?_) ⟨by dsimp only; omega, by simp; omega, by simpa using hx3⟩ (by dsimp only; omega) rfl
        have k1 : ws.length + 1 ≤ 9223372036854775807 := by omega
        have k2 : (ws.length + 1) * 32 ≤ 140737488355328 := by omega
        cases hneg : l.neg <;> simp [-Bool.exists_bool, -getElem?_pos, -Int.natCast_add, hi', lits_at hl1, hneg, hc, wr1 hi (by omega), lits_len, k1, k2, lits_append, lits_cons, lits_nil, cpL]
      · have e1 : i = c.cs.length := by omega
        subst e1
        refine .stop (.exit 4 [(1, fC), (4, b0), (5, bO us vs ws), (49, iL c.cz c.cs c.ce), (50, iI c.cs.length), (51, iI c.cs.length)]) (wpQ_way (q55_l4bn _ _ us.isEmpty (lits us) vs.isEmpty (rws vs) ws.isEmpty (lits ws) c.cz (lits c.cs) c.ce c.cs.length _ _) (by simp)) rfl ?_
        rw [List.drop_length, List.map_nil, List.append_nil] at hx3
        rw [hx3]; rfl) x hx
/-- A clause, copied. -/
def cpC (c : Cl) : Cl := ⟨(c.ls.map cpL).isEmpty, c.ls.map cpL, [], (c.ts.map cpR).isEmpty, c.ts.map cpR, [], (c.cs.map cpL).isEmpty, c.cs.map cpL, []⟩
theorem w_each34 {c : Cl} (h : ClRow c) : C 55 [iC c, fC] = some (oC (cpC c), [iC c, fC]) := by
  refine wfn (lk := []) rfl rfl (fnW_way (q55v1 _ _ c.lz (lits c.ls) c.le c.tz (rws c.ts) c.te c.cz (lits c.cs) c.ce _) ?_)
  have h1 := l_copy0 h.l5 h.ls [] [] ([], 0) ⟨Nat.zero_le _, Nat.zero_le _, rfl⟩
  have h2 := l_copy2 h.t3 h.ts (c.ls.map cpL) [] ([], 0) ⟨Nat.zero_le _, Nat.zero_le _, rfl⟩
  have h3 := l_copy4 h.c3 h.cs (c.ls.map cpL) (c.ts.map cpR) ([], 0) ⟨Nat.zero_le _, Nat.zero_le _, rfl⟩
  rw [lits_len]
  refine .inr ⟨_, _, _, _, _, _, _, _, _, _, _, _, _, _, _, _, _, _, _, _, h1, ?_⟩
  rw [rws_len]
  refine .inr ⟨_, _, _, _, _, _, _, _, _, _, _, _, _, _, _, _, _, _, _, _, h2, ?_⟩
  rw [lits_len]
  exact .inr ⟨_, _, _, _, _, _, _, _, _, _, _, h3, rfl⟩
theorem w_clcopy {c : Cl} (h : ClRow c) : C 37 [iC c] = some (oC (cpC c), [iC c]) := by
  refine wfn (lk := []) rfl rfl (fnW_way (q37 _ _ c.lz (lits c.ls) c.le c.tz (rws c.ts) c.te c.cz (lits c.cs) c.ce _) ?_)
  exact .inr ⟨_, _, _, _, _, _, _, _, w_each34 h, rfl⟩
/-! ### What cannot be, beside a Lit that is so -/
/-- Is it an opposite of an instance? -/
def cutB (g : List Sym) (un : Bool) (ua : List Int) (l : LitR) : Bool := (l.neg != un) && okB g (fun _ => none) ua l.r.l
theorem lits_set (xs : List LitR) (i : Nat) (l : LitR) : (lits xs).set i (.agg [.bool l.neg, .sl 1 l.r.z (ints l.r.l) l.r.e]) = lits (xs.set i l) := by
  simp [lits, List.map_set, LitR.d]
section
variable {g : List Sym} (hg : SigOk g) (z : Bool) (e : List D) (un uz : Bool) {ua : List Int} (ue : List D) (hu : ua.length ≤ 1000) (hc : ∀ c ∈ ua, -24 ≤ c)
abbrev pUn (un uz : Bool) (ua : List Int) (ue : List D) : IV := .dptr [.bool un, .sl 1 uz (ints ua) ue]
abbrev pGn (z : Bool) (g : List Sym) (e : List D) : IV := .dptr [.sl 4 z (syms g) e]
abbrev fK (un uz : Bool) (ua : List Int) (ue : List D) (z : Bool) (g : List Sym) (e : List D) : IV := .fn 39 [pUn un uz ua ue, pGn z g e]
include hg hu hc
theorem w_cut1 {l : LitR} (hl : l.r.l.length ≤ 1000) (hz : l.r.z = true → l.r.l = []) : C 39 [iLit l.neg l.r.z l.r.l l.r.e, pUn un uz ua ue, pGn z g e] = some (iB (cutB g un ua l), [iLit l.neg l.r.z l.r.l l.r.e, pUn un uz ua ue, pGn z g e]) := by
  refine wfn (lk := []) rfl rfl (fnW_way (q39 _ _ l.neg l.r.z (ints l.r.l) l.r.e un uz (ints ua) ue z (syms g) e _) ?_)
  have h1 := w_mgrow hg z uz l.r.z e ue l.r.e hu hl hz hc (s := fun _ => none) (fun v t h => by cases h)
  unfold cutB okB
  rw [bN_eq]
  cases hn : l.neg <;> cases hun : un
  · exact rfl
  · refine ⟨_, _, _, _, _, h1, ?_⟩
    cases (growF g (fun _ => none) ua l.r.l).isSome <;> rfl
  · refine ⟨_, _, _, _, _, h1, ?_⟩
    cases (growF g (fun _ => none) ua l.r.l).isSome <;> rfl
  · exact rfl
theorem w_idxcut {ls : List LitR} (hn : ls.length ≤ 1000) (hls : ∀ l ∈ ls, l.r.l.length ≤ 1000 ∧ (l.r.z = true → l.r.l = [])) (zl : Bool) (el : List D) : C 56 [iL zl ls el, fK un uz ua ue z g e] = some (iI (idxQ (cutB g un ua) ls), [iL zl ls el, fK un uz ua ue z g e]) := by
  refine wfn (lk := [1]) rfl rfl (fnW_way (q56v1 _ _ zl (lits ls) el un uz (ints ua) ue z (syms g) e _) ?_)
  have hl := blk_find (F := F) (d := d56) (lk := [1]) (p := [1,0,1,0,0]) (p0 := [1,0,1]) (by kernel_rfl) (n := ls.length) (id := 0) (st := fun i => [(0, iL zl ls el), (1, fK un uz ua ue z g e), (7, iI ls.length), (8, iI i)]) (q := fun i => match ls[i]? with | some m => cutB g un ua m | none => false) (rt := fun i => [(1, fK un uz ua ue z g e), (4, iI i)]) (e := [(0, iL zl ls el), (1, fK un uz ua ue z g e), (7, iI ls.length), (8, iI ls.length)])
    (fun i hi hq => by
      refine wpQ_way (q56_l0b _ _ zl (lits ls) el un uz (ints ua) ue z (syms g) e _ i _) ?_
      obtain ⟨m, hm⟩ := at_lt hi
      have hmk := hls m (List.mem_of_getElem? hm)
      have h1 := w_cut1 hg z e un uz ue hu hc hmk.1 hmk.2
      rw [hm] at hq
      dsimp only at hq
      rw [hq] at h1
      simp [-Bool.exists_bool, -getElem?_pos, -Int.natCast_add, wr1 hi (by omega), hi, lits_at hm, h1])
    (fun i hi hq => by
      refine wpQ_way (q56_l0b _ _ zl (lits ls) el un uz (ints ua) ue z (syms g) e _ i _) ?_
      obtain ⟨m, hm⟩ := at_lt hi
      have hmk := hls m (List.mem_of_getElem? hm)
      have h1 := w_cut1 hg z e un uz ue hu hc hmk.1 hmk.2
      rw [hm] at hq
      dsimp only at hq
      rw [hq] at h1
      simp [-Bool.exists_bool, -getElem?_pos, -Int.natCast_add, wr1 hi (by omega), hi, lits_at hm, h1])
    (wpQ_way (q56_l0b _ _ zl (lits ls) el un uz (ints ua) ue z (syms g) e _ ls.length _) (by simp)) 0 (Nat.zero_le _)
  rcases hl with ⟨h2, h3⟩ | ⟨j, h1, h2, h4, h5, h3⟩
  · rw [idxQ_none (fun k hk t ht => by have := h2 k (Nat.zero_le _) hk; rw [ht] at this; exact this)]
    rw [lits_len]
    exact .inr (.inr (.inr ⟨_, _, _, _, _, _, _, _, _, _, _, _, h3, rfl⟩))
  · rw [idxQ_some h2 (by have := h4; rw [List.getElem?_eq_getElem h2] at this; exact this) (fun k hk t ht => by have := h5 k (Nat.zero_le _) hk; rw [ht] at this; exact this)]
    rw [lits_len]
    exact .inr (.inr (.inl ⟨_, _, _, _, _, _, _, _, h3, rfl⟩))
theorem l_delete {ls : List LitR} (hn : ls.length ≤ 1000) (hls : ∀ l ∈ ls, l.r.l.length ≤ 1000 ∧ (l.r.z = true → l.r.l = [])) (zl : Bool) (x : List LitR × Nat × Nat) (hx : x.2.1 ≤ x.2.2 ∧ x.2.2 ≤ ls.length ∧ x.2.1 < ls.length ∧ x.1.length = ls.length ∧ x.1.take x.2.1 = (ls.take x.2.2).filter (fun l => !cutB g un ua l) ∧ x.1.drop x.2.2 = ls.drop x.2.2 ∧ (x.2.1 = x.2.2 → False)) :
    ∃ o, evP F (Go.Ab.W F) (JW F d38 [1]) d38 [1] [1,1,1,0,1] [(0, .own zl 35 2 (lits x.1)), (1, fK un uz ua ue z g e), (5, iI x.2.1), (6, iI x.2.2)] = some o ∧ ∃ (ys : List LitR) (i : Nat), o = .norm [(0, .own zl 35 2 (lits ys)), (1, fK un uz ua ue z g e), (5, iI i), (6, iI ls.length)] ∧ i ≤ ls.length ∧ ys.length = ls.length ∧ ys.take i = ls.filter (fun l => !cutB g un ua l) :=
  blk_rule (F := F) (d := d38) (lk := [1]) (p := [1,1,1,0,1,0,0]) (p0 := [1,1,1,0,1]) 0 (by kernel_rfl) (fun (x : List LitR × Nat × Nat) => [(0, .own zl 35 2 (lits x.1)), (1, fK un uz ua ue z g e), (5, iI x.2.1), (6, iI x.2.2)]) (fun x => x.2.1 ≤ x.2.2 ∧ x.2.2 ≤ ls.length ∧ x.2.1 < ls.length ∧ x.1.length = ls.length ∧ x.1.take x.2.1 = (ls.take x.2.2).filter (fun l => !cutB g un ua l) ∧ x.1.drop x.2.2 = ls.drop x.2.2 ∧ (x.2.1 = x.2.2 → False)) (fun x => ls.length - x.2.2)
    (fun x o => ∃ (ys : List LitR) (i : Nat), o = .norm [(0, .own zl 35 2 (lits ys)), (1, fK un uz ua ue z g e), (5, iI i), (6, iI ls.length)] ∧ i ≤ ls.length ∧ ys.length = ls.length ∧ ys.take i = ls.filter (fun l => !cutB g un ua l))
    (fun x hx => by
      obtain ⟨xs, i, j⟩ := x
      obtain ⟨h1, h2, h3, h4, h5, h6, h7⟩ := hx
      dsimp only at h1 h2 h3 h4 h5 h6 h7 ⊢
      by_cases hj : j < ls.length
      rotate_left
      · have e0 : j = ls.length := by omega
        subst e0
        refine .inr ⟨.exit 0 [(0, .own zl 35 2 (lits xs)), (1, fK un uz ua ue z g e), (5, iI i), (6, iI ls.length)], wpQ_way (q38_l0a _ _ zl (lits xs) un uz (ints ua) ue z (syms g) e i ls.length _) (by simp [lits_len, h4]), rfl, xs, i, rfl, by omega, h4, ?_⟩
        rw [h5, List.take_length]
      obtain ⟨l, hl⟩ := at_lt hj
      have hlm := hls l (List.mem_of_getElem? hl)
      have hxl : xs[j]? = some l := by
        have e1 := congrArg (fun t : List LitR => t[0]?) h6
        simp only [List.getElem?_drop, Nat.add_zero] at e1
        rw [e1, hl]
      have hd : ls.drop (j + 1) = (ls.drop j).drop 1 := by rw [List.drop_drop]
      have hc1 := w_cut1 hg z e un uz ue hu hc (l := l) hlm.1 hlm.2
      have htk : ls.take (j + 1) = ls.take j ++ [l] := by
        rw [List.take_add_one, hl]; rfl
      have hw1 := wr1 hj (show ls.length ≤ 9223372036854775807 by omega)
      have hj' : (j : Int) < ls.length := by omega
      have hlx : (lits xs).length = ls.length := by rw [lits_len, h4]
      have hij : i < j := Nat.lt_of_le_of_ne h1 h7
      obtain ⟨m, hm⟩ := at_lt (l := xs) (i := i) (by omega)
      cases hq : cutB g un ua l with
      | true =>
        rw [hq] at hc1
        refine .inl ⟨(xs, i, j + 1), wpQ_way (q38_l0a _ _ zl (lits xs) un uz (ints ua) ue z (syms g) e i j _) ?_, ⟨by dsimp only; omega, by dsimp only; omega, h3, h4, ?_, ?_, fun e => by dsimp only at e; omega⟩, by dsimp only; omega, fun o ho => ho⟩
        · simp [-Bool.exists_bool, -getElem?_pos, -Int.natCast_add, hj', hlx, lits_at hxl, hc1, hw1]
        · dsimp only; rw [htk, List.filter_append, h5]; simp [hq]
        · dsimp only; rw [hd, ← h6, List.drop_drop]
      | false =>
        rw [hq] at hc1
        have hw2 := wr1 (show i < ls.length by omega) (show ls.length ≤ 9223372036854775807 by omega)
        refine .inl ⟨(xs.set i l, i + 1, j + 1), wpQ_way (q38_l0a _ _ zl (lits xs) un uz (ints ua) ue z (syms g) e i j _) ?_, ⟨by dsimp only; omega, by dsimp only; omega, by dsimp only; omega, by simp [h4], ?_, ?_, fun e => by dsimp only at e; omega⟩, by dsimp only; omega, fun o ho => ho⟩
        · have hset : (lits xs).set i (.agg [.bool l.neg, .sl 1 l.r.z (ints l.r.l) l.r.e]) = lits (xs.set i l) := lits_set xs i l
          simp [-Bool.exists_bool, -getElem?_pos, -Int.natCast_add, hj', hlx, lits_at hxl, lits_at hm, hc1, hw1, hw2, D.cells]
          exact hset
        · dsimp only
          rw [htk, List.filter_append, ← h5]
          simp only [List.filter_cons, hq, Bool.not_false, if_true, List.filter_nil]
          rw [List.take_add_one, List.getElem?_set_self (by omega), List.take_set_of_le (Nat.le_refl _)]
          rfl
        · dsimp only
          rw [List.drop_set_of_lt (by omega), hd, ← h6, List.drop_drop]) x hx
theorem w_delete {ls : List LitR} (hn : ls.length ≤ 1000) (hls : ∀ l ∈ ls, l.r.l.length ≤ 1000 ∧ (l.r.z = true → l.r.l = [])) (zl : Bool) : C 38 [.own zl 35 2 (lits ls), fK un uz ua ue z g e] = some (.own zl 35 2 (lits (ls.filter (fun l => !cutB g un ua l))), [.dead, fK un uz ua ue z g e]) := by
  refine wfn (lk := [1]) rfl rfl (fnW_way (q38 _ _ zl (lits ls) un uz (ints ua) ue z (syms g) e _) ?_)
  have h1 := w_idxcut hg z e un uz ue hu hc hn hls zl []
  refine .inl ⟨_, _, _, h1, ?_⟩
  cases hf : ls.findIdx? (cutB g un ua) with
  | none =>
    have hi : idxQ (cutB g un ua) ls = -1 := by unfold idxQ; rw [hf]
    rw [hi]
    have hall : ls.filter (fun l => !cutB g un ua l) = ls := by
      rw [List.findIdx?_eq_none_iff] at hf
      rw [List.filter_eq_self]
      intro l hl
      simp [hf l hl]
    rw [hall]
    exact condW_t rfl rfl
  | some j =>
    have hi : idxQ (cutB g un ua) ls = (j : Int) := by unfold idxQ; rw [hf]
    rw [hi]
    rw [List.findIdx?_eq_some_iff_getElem] at hf
    obtain ⟨hj, hq, hk⟩ := hf
    have hw := wr1 hj (show ls.length ≤ 9223372036854775807 by omega)
    have hne : ((j : Int) == -1) = false := by simp
    obtain ⟨o, h2, ys, i, rfl, h4, h5, h6⟩ := l_delete hg z e un uz ue hu hc hn hls zl (ls, j, j + 1) ⟨by dsimp only; omega, hj, hj, rfl, (by
      dsimp only
      have htk : ls.take (j + 1) = ls.take j ++ [ls[j]] := by rw [List.take_add_one, List.getElem?_eq_getElem hj]; rfl
      rw [htk, List.filter_append]
      have e1 : [ls[j]].filter (fun l => !cutB g un ua l) = [] := by simp [hq]
      rw [e1, List.append_nil, List.filter_eq_self.2]
      intro l hl
      obtain ⟨k, hk1, rfl⟩ := List.mem_take_iff_getElem.1 hl
      have := hk k (by omega)
      simpa using this), rfl, fun e => by dsimp only at e; omega⟩
    refine condW_f hne ?_
    dsimp only at h2
    rw [hw]
    refine ⟨_, _, _, _, _, _, _, _, _, _, _, h2, ?_⟩
    have hly : (lits ys).length = ls.length := by rw [lits_len, h5]
    have hfin : List.take (Int.toNat (i : Int)) (List.take (Int.toNat (i : Int)) (lits ys) ++ List.replicate ((lits ys).length - Int.toNat (i : Int)) (D.agg [D.bool false, D.sl 1 true [] []])) = lits (ls.filter (fun l => !cutB g un ua l)) := by
      rw [Int.toNat_natCast, List.take_append_of_le_length (by simp [hly]; omega), List.take_take, Nat.min_self, ← h6]
      simp [lits, List.map_take]
    rw [hfin]
    refine condW_t (by simp) (condW_t (by rw [hly]; simp; omega) (condW_t (by simp) (condW_t ?_ rfl)))
    rw [Int.toNat_natCast, hly]; simp [hly]; omega
end
end Go.Proofs.YtollbcdhmnnjeaaDoor.Ab

/- Written by a program of this session (wip/tools/AbSym.lean). Not trusted: Lean checks it. -/
set_option maxRecDepth 100000
set_option linter.unusedVariables false
namespace Go.Proofs.YtollbcdhmnnjeaaDoor.Ab
open Go Go.Ab Go.Proofs
def L7 : Lps := fun b => match b with
  | _ => [.norm []]
theorem q7 (C J)  (Q) : fnW F C R (L7) J d7 [] Q = (∃ w0 w1, C 19 [] = some (IV.own w0 79 4 w1, []) ∧ ∃ w2 w3 w4 w5 w6 w7 w8 w9, C 12 [IV.d (D.sl 4 w0 w1 []), IV.d (D.agg [D.sl 2 false [D.agg [D.bool false, D.sl 1 false [D.int IntKind.i64 0, D.int IntKind.i64 (-1), D.int IntKind.i64 3, D.int IntKind.i64 (-1)] []]] [], D.sl 1 true [] [], D.sl 2 true [] []])] = some (IV.tup [IV.agg [IV.own w2 3 1 w3, IV.own w4 3 1 w5], IV.d (D.bool w6), IV.d (D.int IntKind.i64 w7)], [IV.d w8, IV.d w9]) ∧ condW w6 (∃ w10 w11, C 19 [] = some (IV.own w10 79 4 w11, []) ∧ ∃ w12 w13 w14 w15 w16 w17 w18 w19, C 8 [IV.d (D.sl 4 w10 w11 []), IV.d (D.agg [D.sl 1 w2 w3 [], D.sl 1 w4 w5 []]), IV.d (D.sl 1 false [D.int IntKind.i64 4, D.int IntKind.i64 3, D.int IntKind.i64 3, D.int IntKind.i64 1, D.int IntKind.i64 (-1)] [])] = some (IV.tup [IV.d (D.sl 1 w12 w13 w14), IV.d (D.int IntKind.i64 w15), IV.d (D.int IntKind.i64 w16)], [IV.d w17, IV.d w18, IV.d w19]) ∧ ∃ w20 w21, C 19 [] = some (IV.own w20 79 4 w21, []) ∧ ((∃ w22 w23 w24 w25 w26, C 20 [IV.d (D.sl 4 w20 w21 []), IV.d (D.agg [D.sl 1 w2 w3 [], D.sl 1 w4 w5 []]), IV.d (D.agg [D.sl 2 false [D.agg [D.bool false, D.sl 1 false [D.int IntKind.i64 5, D.int IntKind.i64 3, D.int IntKind.i64 2] []]] [], D.sl 1 true [] [], D.sl 2 true [] []])] = some (IV.tup [IV.d (D.agg [D.sl 2 true [] [], D.sl 1 true [] [], D.sl 2 true [] []]), IV.d (D.int IntKind.i64 w22), IV.d (D.int IntKind.i64 w23)], [IV.d w24, IV.d w25, IV.d w26]) ∧ ∃ w27 w28, C 19 [] = some (IV.own w27 79 4 w28, []) ∧ ((∃ w29 w30 w31 w32 w33 w34 w35 w36 w37 w38 w39, C 15 [IV.d (D.sl 4 w27 w28 []), IV.d (D.agg [D.bool false, D.sl 1 false [D.int IntKind.i64 5, D.int IntKind.i64 (-1)] []]), IV.d (D.agg [D.sl 2 false [D.agg [D.bool true, D.sl 1 false [D.int IntKind.i64 5, D.int IntKind.i64 1] []], D.agg [D.bool false, D.sl 1 false [D.int IntKind.i64 5, D.int IntKind.i64 2] []]] [], D.sl 1 true [] [], D.sl 2 true [] []])] = some (IV.tup [IV.agg [IV.own w29 35 2 w30, IV.own w31 23 1 w32, IV.own w33 35 2 w34], IV.d (D.int IntKind.i64 w35), IV.d (D.int IntKind.i64 w36)], [IV.d w37, IV.d w38, IV.d w39]) ∧ ∃ w40 w41, C 19 [] = some (IV.own w40 79 4 w41, []) ∧ ∃ w42 w43 w44 w45 w46 w47 w48 w49, C 8 [IV.d (D.sl 4 w40 w41 []), IV.d (D.agg [D.sl 1 false [D.int IntKind.i64 1] [], D.sl 1 false [D.int IntKind.i64 2] []]), IV.d (D.sl 1 true [] [])] = some (IV.tup [IV.d (D.sl 1 w42 w43 w44), IV.d (D.int IntKind.i64 w45), IV.d (D.int IntKind.i64 w46)], [IV.d w47, IV.d w48, IV.d w49]) ∧ ∃ w50 w51, C 10 [IV.d (D.int IntKind.i64 w7)] = some (IV.d (D.int IntKind.i64 w50), [IV.d w51]) ∧ condW (w50 == 0) (∃ w52 w53 w54, C 13 [IV.d (D.sl 1 w2 w3 []), IV.d (D.sl 1 false [D.int IntKind.i64 3, D.int IntKind.i64 (-1)] [])] = some (IV.d (D.bool w52), [IV.d w53, IV.d w54]) ∧ condW w52 (∃ w55 w56 w57, C 13 [IV.d (D.sl 1 w4 w5 []), IV.d (D.sl 1 false [D.int IntKind.i64 (-1)] [])] = some (IV.d (D.bool w55), [IV.d w56, IV.d w57]) ∧ condW w55 (∃ w58 w59 w60, C 13 [IV.d (D.sl 1 w12 w13 w14), IV.d (D.sl 1 false [D.int IntKind.i64 4, D.int IntKind.i64 1, D.int IntKind.i64 (-1)] [])] = some (IV.d (D.bool w58), [IV.d w59, IV.d w60]) ∧ condW w58 (condW (w15 == 2) (∃ w61 w62, C 10 [IV.d (D.int IntKind.i64 w16)] = some (IV.d (D.int IntKind.i64 w61), [IV.d w62]) ∧ condW (w61 == 0) (condW (w22 == 1) (∃ w63 w64, C 10 [IV.d (D.int IntKind.i64 w23)] = some (IV.d (D.int IntKind.i64 w63), [IV.d w64]) ∧ condW (w63 == 0) (∃ w65 w66 w67, C 18 [IV.d (D.agg [D.sl 2 true [] [], D.sl 1 true [] [], D.sl 2 true [] []]), IV.d (D.agg [D.sl 2 false [D.agg [D.bool false, D.sl 1 false [D.int IntKind.i64 5, D.int IntKind.i64 2] []]] [], D.sl 1 true [] [], D.sl 2 true [] []])] = some (IV.d (D.bool w65), [IV.d w66, IV.d w67]) ∧ condW w65 (condW (w35 == 1) (∃ w68 w69, C 10 [IV.d (D.int IntKind.i64 w36)] = some (IV.d (D.int IntKind.i64 w68), [IV.d w69]) ∧ condW (w68 == 0) (∃ w70 w71 w72, C 18 [IV.d (D.agg [D.sl 2 w29 w30 [], D.sl 1 w31 w32 [], D.sl 2 w33 w34 []]), IV.d (D.agg [D.sl 2 false [D.agg [D.bool false, D.sl 1 false [D.int IntKind.i64 5, D.int IntKind.i64 2] []]] [], D.sl 1 true [] [], D.sl 2 true [] []])] = some (IV.d (D.bool w70), [IV.d w71, IV.d w72]) ∧ condW w70 (∃ w73 w74, C 10 [IV.d (D.int IntKind.i64 w46)] = some (IV.d (D.int IntKind.i64 w73), [IV.d w74]) ∧ condW (w73 == 1600) (Q (some (IV.d (D.bool true), []))) (Q (some (IV.d (D.bool false), [])))) (Q (some (IV.d (D.bool false), [])))) (Q (some (IV.d (D.bool false), [])))) (Q (some (IV.d (D.bool false), [])))) (Q (some (IV.d (D.bool false), [])))) (Q (some (IV.d (D.bool false), [])))) (Q (some (IV.d (D.bool false), [])))) (Q (some (IV.d (D.bool false), [])))) (Q (some (IV.d (D.bool false), [])))) (Q (some (IV.d (D.bool false), [])))) (Q (some (IV.d (D.bool false), [])))) (Q (some (IV.d (D.bool false), [])))) (Q (some (IV.d (D.bool false), [])))) ∨ ∃ w75 w76 w77 w78 w79, C 15 [IV.d (D.sl 4 w27 w28 []), IV.d (D.agg [D.bool false, D.sl 1 false [D.int IntKind.i64 5, D.int IntKind.i64 (-1)] []]), IV.d (D.agg [D.sl 2 false [D.agg [D.bool true, D.sl 1 false [D.int IntKind.i64 5, D.int IntKind.i64 1] []], D.agg [D.bool false, D.sl 1 false [D.int IntKind.i64 5, D.int IntKind.i64 2] []]] [], D.sl 1 true [] [], D.sl 2 true [] []])] = some (IV.tup [IV.d (D.agg [D.sl 2 true [] [], D.sl 1 true [] [], D.sl 2 true [] []]), IV.d (D.int IntKind.i64 w75), IV.d (D.int IntKind.i64 w76)], [IV.d w77, IV.d w78, IV.d w79]) ∧ ∃ w80 w81, C 19 [] = some (IV.own w80 79 4 w81, []) ∧ ∃ w82 w83 w84 w85 w86 w87 w88 w89, C 8 [IV.d (D.sl 4 w80 w81 []), IV.d (D.agg [D.sl 1 false [D.int IntKind.i64 1] [], D.sl 1 false [D.int IntKind.i64 2] []]), IV.d (D.sl 1 true [] [])] = some (IV.tup [IV.d (D.sl 1 w82 w83 w84), IV.d (D.int IntKind.i64 w85), IV.d (D.int IntKind.i64 w86)], [IV.d w87, IV.d w88, IV.d w89]) ∧ ∃ w90 w91, C 10 [IV.d (D.int IntKind.i64 w7)] = some (IV.d (D.int IntKind.i64 w90), [IV.d w91]) ∧ condW (w90 == 0) (∃ w92 w93 w94, C 13 [IV.d (D.sl 1 w2 w3 []), IV.d (D.sl 1 false [D.int IntKind.i64 3, D.int IntKind.i64 (-1)] [])] = some (IV.d (D.bool w92), [IV.d w93, IV.d w94]) ∧ condW w92 (∃ w95 w96 w97, C 13 [IV.d (D.sl 1 w4 w5 []), IV.d (D.sl 1 false [D.int IntKind.i64 (-1)] [])] = some (IV.d (D.bool w95), [IV.d w96, IV.d w97]) ∧ condW w95 (∃ w98 w99 w100, C 13 [IV.d (D.sl 1 w12 w13 w14), IV.d (D.sl 1 false [D.int IntKind.i64 4, D.int IntKind.i64 1, D.int IntKind.i64 (-1)] [])] = some (IV.d (D.bool w98), [IV.d w99, IV.d w100]) ∧ condW w98 (condW (w15 == 2) (∃ w101 w102, C 10 [IV.d (D.int IntKind.i64 w16)] = some (IV.d (D.int IntKind.i64 w101), [IV.d w102]) ∧ condW (w101 == 0) (condW (w22 == 1) (∃ w103 w104, C 10 [IV.d (D.int IntKind.i64 w23)] = some (IV.d (D.int IntKind.i64 w103), [IV.d w104]) ∧ condW (w103 == 0) (∃ w105 w106 w107, C 18 [IV.d (D.agg [D.sl 2 true [] [], D.sl 1 true [] [], D.sl 2 true [] []]), IV.d (D.agg [D.sl 2 false [D.agg [D.bool false, D.sl 1 false [D.int IntKind.i64 5, D.int IntKind.i64 2] []]] [], D.sl 1 true [] [], D.sl 2 true [] []])] = some (IV.d (D.bool w105), [IV.d w106, IV.d w107]) ∧ condW w105 (condW (w75 == 1) (∃ w108 w109, C 10 [IV.d (D.int IntKind.i64 w76)] = some (IV.d (D.int IntKind.i64 w108), [IV.d w109]) ∧ condW (w108 == 0) (∃ w110 w111 w112, C 18 [IV.d (D.agg [D.sl 2 true [] [], D.sl 1 true [] [], D.sl 2 true [] []]), IV.d (D.agg [D.sl 2 false [D.agg [D.bool false, D.sl 1 false [D.int IntKind.i64 5, D.int IntKind.i64 2] []]] [], D.sl 1 true [] [], D.sl 2 true [] []])] = some (IV.d (D.bool w110), [IV.d w111, IV.d w112]) ∧ condW w110 (∃ w113 w114, C 10 [IV.d (D.int IntKind.i64 w86)] = some (IV.d (D.int IntKind.i64 w113), [IV.d w114]) ∧ condW (w113 == 1600) (Q (some (IV.d (D.bool true), []))) (Q (some (IV.d (D.bool false), [])))) (Q (some (IV.d (D.bool false), [])))) (Q (some (IV.d (D.bool false), [])))) (Q (some (IV.d (D.bool false), [])))) (Q (some (IV.d (D.bool false), [])))) (Q (some (IV.d (D.bool false), [])))) (Q (some (IV.d (D.bool false), [])))) (Q (some (IV.d (D.bool false), [])))) (Q (some (IV.d (D.bool false), [])))) (Q (some (IV.d (D.bool false), [])))) (Q (some (IV.d (D.bool false), [])))) (Q (some (IV.d (D.bool false), [])))) (Q (some (IV.d (D.bool false), []))))) ∨ ∃ w115 w116 w117 w118 w119 w120 w121 w122 w123 w124 w125, C 20 [IV.d (D.sl 4 w20 w21 []), IV.d (D.agg [D.sl 1 w2 w3 [], D.sl 1 w4 w5 []]), IV.d (D.agg [D.sl 2 false [D.agg [D.bool false, D.sl 1 false [D.int IntKind.i64 5, D.int IntKind.i64 3, D.int IntKind.i64 2] []]] [], D.sl 1 true [] [], D.sl 2 true [] []])] = some (IV.tup [IV.agg [IV.own w115 35 2 w116, IV.own w117 23 1 w118, IV.own w119 35 2 w120], IV.d (D.int IntKind.i64 w121), IV.d (D.int IntKind.i64 w122)], [IV.d w123, IV.d w124, IV.d w125]) ∧ ∃ w126 w127, C 19 [] = some (IV.own w126 79 4 w127, []) ∧ ((∃ w128 w129 w130 w131 w132 w133 w134 w135 w136 w137 w138, C 15 [IV.d (D.sl 4 w126 w127 []), IV.d (D.agg [D.bool false, D.sl 1 false [D.int IntKind.i64 5, D.int IntKind.i64 (-1)] []]), IV.d (D.agg [D.sl 2 false [D.agg [D.bool true, D.sl 1 false [D.int IntKind.i64 5, D.int IntKind.i64 1] []], D.agg [D.bool false, D.sl 1 false [D.int IntKind.i64 5, D.int IntKind.i64 2] []]] [], D.sl 1 true [] [], D.sl 2 true [] []])] = some (IV.tup [IV.agg [IV.own w128 35 2 w129, IV.own w130 23 1 w131, IV.own w132 35 2 w133], IV.d (D.int IntKind.i64 w134), IV.d (D.int IntKind.i64 w135)], [IV.d w136, IV.d w137, IV.d w138]) ∧ ∃ w139 w140, C 19 [] = some (IV.own w139 79 4 w140, []) ∧ ∃ w141 w142 w143 w144 w145 w146 w147 w148, C 8 [IV.d (D.sl 4 w139 w140 []), IV.d (D.agg [D.sl 1 false [D.int IntKind.i64 1] [], D.sl 1 false [D.int IntKind.i64 2] []]), IV.d (D.sl 1 true [] [])] = some (IV.tup [IV.d (D.sl 1 w141 w142 w143), IV.d (D.int IntKind.i64 w144), IV.d (D.int IntKind.i64 w145)], [IV.d w146, IV.d w147, IV.d w148]) ∧ ∃ w149 w150, C 10 [IV.d (D.int IntKind.i64 w7)] = some (IV.d (D.int IntKind.i64 w149), [IV.d w150]) ∧ condW (w149 == 0) (∃ w151 w152 w153, C 13 [IV.d (D.sl 1 w2 w3 []), IV.d (D.sl 1 false [D.int IntKind.i64 3, D.int IntKind.i64 (-1)] [])] = some (IV.d (D.bool w151), [IV.d w152, IV.d w153]) ∧ condW w151 (∃ w154 w155 w156, C 13 [IV.d (D.sl 1 w4 w5 []), IV.d (D.sl 1 false [D.int IntKind.i64 (-1)] [])] = some (IV.d (D.bool w154), [IV.d w155, IV.d w156]) ∧ condW w154 (∃ w157 w158 w159, C 13 [IV.d (D.sl 1 w12 w13 w14), IV.d (D.sl 1 false [D.int IntKind.i64 4, D.int IntKind.i64 1, D.int IntKind.i64 (-1)] [])] = some (IV.d (D.bool w157), [IV.d w158, IV.d w159]) ∧ condW w157 (condW (w15 == 2) (∃ w160 w161, C 10 [IV.d (D.int IntKind.i64 w16)] = some (IV.d (D.int IntKind.i64 w160), [IV.d w161]) ∧ condW (w160 == 0) (condW (w121 == 1) (∃ w162 w163, C 10 [IV.d (D.int IntKind.i64 w122)] = some (IV.d (D.int IntKind.i64 w162), [IV.d w163]) ∧ condW (w162 == 0) (∃ w164 w165 w166, C 18 [IV.d (D.agg [D.sl 2 w115 w116 [], D.sl 1 w117 w118 [], D.sl 2 w119 w120 []]), IV.d (D.agg [D.sl 2 false [D.agg [D.bool false, D.sl 1 false [D.int IntKind.i64 5, D.int IntKind.i64 2] []]] [], D.sl 1 true [] [], D.sl 2 true [] []])] = some (IV.d (D.bool w164), [IV.d w165, IV.d w166]) ∧ condW w164 (condW (w134 == 1) (∃ w167 w168, C 10 [IV.d (D.int IntKind.i64 w135)] = some (IV.d (D.int IntKind.i64 w167), [IV.d w168]) ∧ condW (w167 == 0) (∃ w169 w170 w171, C 18 [IV.d (D.agg [D.sl 2 w128 w129 [], D.sl 1 w130 w131 [], D.sl 2 w132 w133 []]), IV.d (D.agg [D.sl 2 false [D.agg [D.bool false, D.sl 1 false [D.int IntKind.i64 5, D.int IntKind.i64 2] []]] [], D.sl 1 true [] [], D.sl 2 true [] []])] = some (IV.d (D.bool w169), [IV.d w170, IV.d w171]) ∧ condW w169 (∃ w172 w173, C 10 [IV.d (D.int IntKind.i64 w145)] = some (IV.d (D.int IntKind.i64 w172), [IV.d w173]) ∧ condW (w172 == 1600) (Q (some (IV.d (D.bool true), []))) (Q (some (IV.d (D.bool false), [])))) (Q (some (IV.d (D.bool false), [])))) (Q (some (IV.d (D.bool false), [])))) (Q (some (IV.d (D.bool false), [])))) (Q (some (IV.d (D.bool false), [])))) (Q (some (IV.d (D.bool false), [])))) (Q (some (IV.d (D.bool false), [])))) (Q (some (IV.d (D.bool false), [])))) (Q (some (IV.d (D.bool false), [])))) (Q (some (IV.d (D.bool false), [])))) (Q (some (IV.d (D.bool false), [])))) (Q (some (IV.d (D.bool false), [])))) (Q (some (IV.d (D.bool false), [])))) ∨ ∃ w174 w175 w176 w177 w178, C 15 [IV.d (D.sl 4 w126 w127 []), IV.d (D.agg [D.bool false, D.sl 1 false [D.int IntKind.i64 5, D.int IntKind.i64 (-1)] []]), IV.d (D.agg [D.sl 2 false [D.agg [D.bool true, D.sl 1 false [D.int IntKind.i64 5, D.int IntKind.i64 1] []], D.agg [D.bool false, D.sl 1 false [D.int IntKind.i64 5, D.int IntKind.i64 2] []]] [], D.sl 1 true [] [], D.sl 2 true [] []])] = some (IV.tup [IV.d (D.agg [D.sl 2 true [] [], D.sl 1 true [] [], D.sl 2 true [] []]), IV.d (D.int IntKind.i64 w174), IV.d (D.int IntKind.i64 w175)], [IV.d w176, IV.d w177, IV.d w178]) ∧ ∃ w179 w180, C 19 [] = some (IV.own w179 79 4 w180, []) ∧ ∃ w181 w182 w183 w184 w185 w186 w187 w188, C 8 [IV.d (D.sl 4 w179 w180 []), IV.d (D.agg [D.sl 1 false [D.int IntKind.i64 1] [], D.sl 1 false [D.int IntKind.i64 2] []]), IV.d (D.sl 1 true [] [])] = some (IV.tup [IV.d (D.sl 1 w181 w182 w183), IV.d (D.int IntKind.i64 w184), IV.d (D.int IntKind.i64 w185)], [IV.d w186, IV.d w187, IV.d w188]) ∧ ∃ w189 w190, C 10 [IV.d (D.int IntKind.i64 w7)] = some (IV.d (D.int IntKind.i64 w189), [IV.d w190]) ∧ condW (w189 == 0) (∃ w191 w192 w193, C 13 [IV.d (D.sl 1 w2 w3 []), IV.d (D.sl 1 false [D.int IntKind.i64 3, D.int IntKind.i64 (-1)] [])] = some (IV.d (D.bool w191), [IV.d w192, IV.d w193]) ∧ condW w191 (∃ w194 w195 w196, C 13 [IV.d (D.sl 1 w4 w5 []), IV.d (D.sl 1 false [D.int IntKind.i64 (-1)] [])] = some (IV.d (D.bool w194), [IV.d w195, IV.d w196]) ∧ condW w194 (∃ w197 w198 w199, C 13 [IV.d (D.sl 1 w12 w13 w14), IV.d (D.sl 1 false [D.int IntKind.i64 4, D.int IntKind.i64 1, D.int IntKind.i64 (-1)] [])] = some (IV.d (D.bool w197), [IV.d w198, IV.d w199]) ∧ condW w197 (condW (w15 == 2) (∃ w200 w201, C 10 [IV.d (D.int IntKind.i64 w16)] = some (IV.d (D.int IntKind.i64 w200), [IV.d w201]) ∧ condW (w200 == 0) (condW (w121 == 1) (∃ w202 w203, C 10 [IV.d (D.int IntKind.i64 w122)] = some (IV.d (D.int IntKind.i64 w202), [IV.d w203]) ∧ condW (w202 == 0) (∃ w204 w205 w206, C 18 [IV.d (D.agg [D.sl 2 w115 w116 [], D.sl 1 w117 w118 [], D.sl 2 w119 w120 []]), IV.d (D.agg [D.sl 2 false [D.agg [D.bool false, D.sl 1 false [D.int IntKind.i64 5, D.int IntKind.i64 2] []]] [], D.sl 1 true [] [], D.sl 2 true [] []])] = some (IV.d (D.bool w204), [IV.d w205, IV.d w206]) ∧ condW w204 (condW (w174 == 1) (∃ w207 w208, C 10 [IV.d (D.int IntKind.i64 w175)] = some (IV.d (D.int IntKind.i64 w207), [IV.d w208]) ∧ condW (w207 == 0) (∃ w209 w210 w211, C 18 [IV.d (D.agg [D.sl 2 true [] [], D.sl 1 true [] [], D.sl 2 true [] []]), IV.d (D.agg [D.sl 2 false [D.agg [D.bool false, D.sl 1 false [D.int IntKind.i64 5, D.int IntKind.i64 2] []]] [], D.sl 1 true [] [], D.sl 2 true [] []])] = some (IV.d (D.bool w209), [IV.d w210, IV.d w211]) ∧ condW w209 (∃ w212 w213, C 10 [IV.d (D.int IntKind.i64 w185)] = some (IV.d (D.int IntKind.i64 w212), [IV.d w213]) ∧ condW (w212 == 1600) (Q (some (IV.d (D.bool true), []))) (Q (some (IV.d (D.bool false), [])))) (Q (some (IV.d (D.bool false), [])))) (Q (some (IV.d (D.bool false), [])))) (Q (some (IV.d (D.bool false), [])))) (Q (some (IV.d (D.bool false), [])))) (Q (some (IV.d (D.bool false), [])))) (Q (some (IV.d (D.bool false), [])))) (Q (some (IV.d (D.bool false), [])))) (Q (some (IV.d (D.bool false), [])))) (Q (some (IV.d (D.bool false), [])))) (Q (some (IV.d (D.bool false), [])))) (Q (some (IV.d (D.bool false), [])))) (Q (some (IV.d (D.bool false), [])))))) (∃ w214 w215, C 19 [] = some (IV.own w214 79 4 w215, []) ∧ ∃ w216 w217 w218 w219 w220 w221 w222 w223, C 8 [IV.d (D.sl 4 w214 w215 []), IV.d (D.agg [D.sl 1 w2 w3 [], D.sl 1 w4 w5 []]), IV.d (D.sl 1 false [D.int IntKind.i64 4, D.int IntKind.i64 3, D.int IntKind.i64 3, D.int IntKind.i64 1, D.int IntKind.i64 (-1)] [])] = some (IV.tup [IV.d (D.sl 1 w216 w217 w218), IV.d (D.int IntKind.i64 w219), IV.d (D.int IntKind.i64 w220)], [IV.d w221, IV.d w222, IV.d w223]) ∧ ∃ w224 w225, C 19 [] = some (IV.own w224 79 4 w225, []) ∧ ((∃ w226 w227 w228 w229 w230, C 20 [IV.d (D.sl 4 w224 w225 []), IV.d (D.agg [D.sl 1 w2 w3 [], D.sl 1 w4 w5 []]), IV.d (D.agg [D.sl 2 false [D.agg [D.bool false, D.sl 1 false [D.int IntKind.i64 5, D.int IntKind.i64 3, D.int IntKind.i64 2] []]] [], D.sl 1 true [] [], D.sl 2 true [] []])] = some (IV.tup [IV.d (D.agg [D.sl 2 true [] [], D.sl 1 true [] [], D.sl 2 true [] []]), IV.d (D.int IntKind.i64 w226), IV.d (D.int IntKind.i64 w227)], [IV.d w228, IV.d w229, IV.d w230]) ∧ ∃ w231 w232, C 19 [] = some (IV.own w231 79 4 w232, []) ∧ ((∃ w233 w234 w235 w236 w237 w238 w239 w240 w241 w242 w243, C 15 [IV.d (D.sl 4 w231 w232 []), IV.d (D.agg [D.bool false, D.sl 1 false [D.int IntKind.i64 5, D.int IntKind.i64 (-1)] []]), IV.d (D.agg [D.sl 2 false [D.agg [D.bool true, D.sl 1 false [D.int IntKind.i64 5, D.int IntKind.i64 1] []], D.agg [D.bool false, D.sl 1 false [D.int IntKind.i64 5, D.int IntKind.i64 2] []]] [], D.sl 1 true [] [], D.sl 2 true [] []])] = some (IV.tup [IV.agg [IV.own w233 35 2 w234, IV.own w235 23 1 w236, IV.own w237 35 2 w238], IV.d (D.int IntKind.i64 w239), IV.d (D.int IntKind.i64 w240)], [IV.d w241, IV.d w242, IV.d w243]) ∧ ∃ w244 w245, C 19 [] = some (IV.own w244 79 4 w245, []) ∧ ∃ w246 w247 w248 w249 w250 w251 w252 w253, C 8 [IV.d (D.sl 4 w244 w245 []), IV.d (D.agg [D.sl 1 false [D.int IntKind.i64 1] [], D.sl 1 false [D.int IntKind.i64 2] []]), IV.d (D.sl 1 true [] [])] = some (IV.tup [IV.d (D.sl 1 w246 w247 w248), IV.d (D.int IntKind.i64 w249), IV.d (D.int IntKind.i64 w250)], [IV.d w251, IV.d w252, IV.d w253]) ∧ Q (some (IV.d (D.bool false), []))) ∨ ∃ w254 w255 w256 w257 w258, C 15 [IV.d (D.sl 4 w231 w232 []), IV.d (D.agg [D.bool false, D.sl 1 false [D.int IntKind.i64 5, D.int IntKind.i64 (-1)] []]), IV.d (D.agg [D.sl 2 false [D.agg [D.bool true, D.sl 1 false [D.int IntKind.i64 5, D.int IntKind.i64 1] []], D.agg [D.bool false, D.sl 1 false [D.int IntKind.i64 5, D.int IntKind.i64 2] []]] [], D.sl 1 true [] [], D.sl 2 true [] []])] = some (IV.tup [IV.d (D.agg [D.sl 2 true [] [], D.sl 1 true [] [], D.sl 2 true [] []]), IV.d (D.int IntKind.i64 w254), IV.d (D.int IntKind.i64 w255)], [IV.d w256, IV.d w257, IV.d w258]) ∧ ∃ w259 w260, C 19 [] = some (IV.own w259 79 4 w260, []) ∧ ∃ w261 w262 w263 w264 w265 w266 w267 w268, C 8 [IV.d (D.sl 4 w259 w260 []), IV.d (D.agg [D.sl 1 false [D.int IntKind.i64 1] [], D.sl 1 false [D.int IntKind.i64 2] []]), IV.d (D.sl 1 true [] [])] = some (IV.tup [IV.d (D.sl 1 w261 w262 w263), IV.d (D.int IntKind.i64 w264), IV.d (D.int IntKind.i64 w265)], [IV.d w266, IV.d w267, IV.d w268]) ∧ Q (some (IV.d (D.bool false), [])))) ∨ ∃ w269 w270 w271 w272 w273 w274 w275 w276 w277 w278 w279, C 20 [IV.d (D.sl 4 w224 w225 []), IV.d (D.agg [D.sl 1 w2 w3 [], D.sl 1 w4 w5 []]), IV.d (D.agg [D.sl 2 false [D.agg [D.bool false, D.sl 1 false [D.int IntKind.i64 5, D.int IntKind.i64 3, D.int IntKind.i64 2] []]] [], D.sl 1 true [] [], D.sl 2 true [] []])] = some (IV.tup [IV.agg [IV.own w269 35 2 w270, IV.own w271 23 1 w272, IV.own w273 35 2 w274], IV.d (D.int IntKind.i64 w275), IV.d (D.int IntKind.i64 w276)], [IV.d w277, IV.d w278, IV.d w279]) ∧ ∃ w280 w281, C 19 [] = some (IV.own w280 79 4 w281, []) ∧ ((∃ w282 w283 w284 w285 w286 w287 w288 w289 w290 w291 w292, C 15 [IV.d (D.sl 4 w280 w281 []), IV.d (D.agg [D.bool false, D.sl 1 false [D.int IntKind.i64 5, D.int IntKind.i64 (-1)] []]), IV.d (D.agg [D.sl 2 false [D.agg [D.bool true, D.sl 1 false [D.int IntKind.i64 5, D.int IntKind.i64 1] []], D.agg [D.bool false, D.sl 1 false [D.int IntKind.i64 5, D.int IntKind.i64 2] []]] [], D.sl 1 true [] [], D.sl 2 true [] []])] = some (IV.tup [IV.agg [IV.own w282 35 2 w283, IV.own w284 23 1 w285, IV.own w286 35 2 w287], IV.d (D.int IntKind.i64 w288), IV.d (D.int IntKind.i64 w289)], [IV.d w290, IV.d w291, IV.d w292]) ∧ ∃ w293 w294, C 19 [] = some (IV.own w293 79 4 w294, []) ∧ ∃ w295 w296 w297 w298 w299 w300 w301 w302, C 8 [IV.d (D.sl 4 w293 w294 []), IV.d (D.agg [D.sl 1 false [D.int IntKind.i64 1] [], D.sl 1 false [D.int IntKind.i64 2] []]), IV.d (D.sl 1 true [] [])] = some (IV.tup [IV.d (D.sl 1 w295 w296 w297), IV.d (D.int IntKind.i64 w298), IV.d (D.int IntKind.i64 w299)], [IV.d w300, IV.d w301, IV.d w302]) ∧ Q (some (IV.d (D.bool false), []))) ∨ ∃ w303 w304 w305 w306 w307, C 15 [IV.d (D.sl 4 w280 w281 []), IV.d (D.agg [D.bool false, D.sl 1 false [D.int IntKind.i64 5, D.int IntKind.i64 (-1)] []]), IV.d (D.agg [D.sl 2 false [D.agg [D.bool true, D.sl 1 false [D.int IntKind.i64 5, D.int IntKind.i64 1] []], D.agg [D.bool false, D.sl 1 false [D.int IntKind.i64 5, D.int IntKind.i64 2] []]] [], D.sl 1 true [] [], D.sl 2 true [] []])] = some (IV.tup [IV.d (D.agg [D.sl 2 true [] [], D.sl 1 true [] [], D.sl 2 true [] []]), IV.d (D.int IntKind.i64 w303), IV.d (D.int IntKind.i64 w304)], [IV.d w305, IV.d w306, IV.d w307]) ∧ ∃ w308 w309, C 19 [] = some (IV.own w308 79 4 w309, []) ∧ ∃ w310 w311 w312 w313 w314 w315 w316 w317, C 8 [IV.d (D.sl 4 w308 w309 []), IV.d (D.agg [D.sl 1 false [D.int IntKind.i64 1] [], D.sl 1 false [D.int IntKind.i64 2] []]), IV.d (D.sl 1 true [] [])] = some (IV.tup [IV.d (D.sl 1 w310 w311 w312), IV.d (D.int IntKind.i64 w313), IV.d (D.int IntKind.i64 w314)], [IV.d w315, IV.d w316, IV.d w317]) ∧ Q (some (IV.d (D.bool false), [])))))) := by kernel_rfl
end Go.Proofs.YtollbcdhmnnjeaaDoor.Ab

/- The words that chapter 16's laws ask first: true. No condition. -/
set_option linter.unusedVariables false
set_option maxRecDepth 100000
namespace Go.Proofs.YtollbcdhmnnjeaaDoor.Ab
open Go Go.Ab Go.Qu Go.Proofs
def awG : List Sym := [⟨⟨#[61]⟩, 0, 2, 1⟩, ⟨⟨#[97]⟩, 1, 0, 1⟩, ⟨⟨#[98]⟩, 1, 0, 2⟩, ⟨⟨#[102]⟩, 1, 1, 1⟩, ⟨⟨#[103]⟩, 1, 2, 3⟩, ⟨⟨#[112]⟩, 0, 1, 1⟩, ⟨⟨#[114]⟩, 0, 2, 2⟩]
theorem aw_rule : C 12 [iG false awG [], .d (.agg [.sl 2 false [.agg [.bool false, .sl 1 false (ints [0, -1, 3, -1]) []]] [], .sl 1 true [] [], .sl 2 true [] []])] = some (.tup [.agg [.own false 3 1 (ints [3, -1]), .own false 3 1 (ints [-1])], iB true, iI 0], [iG false awG [], .d (.agg [.sl 2 false [.agg [.bool false, .sl 1 false (ints [0, -1, 3, -1]) []]] [], .sl 1 true [] [], .sl 2 true [] []])]) := W_ev (n := 60) (by kernel_rfl)
theorem aw_rew : C 8 [iG false awG [], .d (.agg [.sl 1 false (ints [3, -1]) [], .sl 1 false (ints [-1]) []]), iS false [4, 3, 3, 1, -1] []] = some (.tup [iS false [4, 1, -1] [], iI 2, iI 0], [iG false awG [], .d (.agg [.sl 1 false (ints [3, -1]) [], .sl 1 false (ints [-1]) []]), iS false [4, 3, 3, 1, -1] []]) := W_ev (n := 60) (by kernel_rfl)
theorem aw_cl : C 20 [iG false awG [], .d (.agg [.sl 1 false (ints [3, -1]) [], .sl 1 false (ints [-1]) []]), .d (.agg [.sl 2 false [.agg [.bool false, .sl 1 false (ints [5, 3, 2]) []]] [], .sl 1 true [] [], .sl 2 true [] []])] = some (.tup [.agg [.own false 35 2 [.agg [.bool false, .sl 1 false (ints [5, 2]) []]], .own true 23 1 [], .own true 35 2 []], iI 1, iI 0], [iG false awG [], .d (.agg [.sl 1 false (ints [3, -1]) [], .sl 1 false (ints [-1]) []]), .d (.agg [.sl 2 false [.agg [.bool false, .sl 1 false (ints [5, 3, 2]) []]] [], .sl 1 true [] [], .sl 2 true [] []])]) := W_ev (n := 60) (by kernel_rfl)
theorem aw_cut : C 15 [iG false awG [], .d (.agg [.bool false, .sl 1 false (ints [5, -1]) []]), .d (.agg [.sl 2 false [.agg [.bool true, .sl 1 false (ints [5, 1]) []], .agg [.bool false, .sl 1 false (ints [5, 2]) []]] [], .sl 1 true [] [], .sl 2 true [] []])] = some (.tup [.agg [.own false 35 2 [.agg [.bool false, .sl 1 false (ints [5, 2]) []]], .own true 23 1 [], .own true 35 2 []], iI 1, iI 0], [iG false awG [], .d (.agg [.bool false, .sl 1 false (ints [5, -1]) []]), .d (.agg [.sl 2 false [.agg [.bool true, .sl 1 false (ints [5, 1]) []], .agg [.bool false, .sl 1 false (ints [5, 2]) []]] [], .sl 1 true [] [], .sl 2 true [] []])]) := W_ev (n := 60) (by kernel_rfl)
theorem aw_err : C 8 [iG false awG [], .d (.agg [.sl 1 false (ints [1]) [], .sl 1 false (ints [2]) []]), iS true [] []] = some (.tup [iS true [] [], iI 0, iI 1600], [iG false awG [], .d (.agg [.sl 1 false (ints [1]) [], .sl 1 false (ints [2]) []]), iS true [] []]) := W_ev (n := 60) (by kernel_rfl)
theorem w_words : C 19 [] = some (.own false 79 4 (syms awG), []) := W_ev (n := 60) (by kernel_rfl)
theorem aw_same : C 18 [.d (.agg [.sl 2 false [.agg [.bool false, .sl 1 false (ints [5, 2]) []]] [], .sl 1 true [] [], .sl 2 true [] []]), .d (.agg [.sl 2 false [.agg [.bool false, .sl 1 false (ints [5, 2]) []]] [], .sl 1 true [] [], .sl 2 true [] []])] = some (iB true, [.d (.agg [.sl 2 false [.agg [.bool false, .sl 1 false (ints [5, 2]) []]] [], .sl 1 true [] [], .sl 2 true [] []]), .d (.agg [.sl 2 false [.agg [.bool false, .sl 1 false (ints [5, 2]) []]] [], .sl 1 true [] [], .sl 2 true [] []])]) := W_ev (n := 60) (by kernel_rfl)
theorem aw_i1 : C 13 [iS false [3, -1] [], iS false [3, -1] []] = some (iB true, [iS false [3, -1] [], iS false [3, -1] []]) := W_ev (n := 60) (by kernel_rfl)
theorem aw_i2 : C 13 [iS false [-1] [], iS false [-1] []] = some (iB true, [iS false [-1] [], iS false [-1] []]) := W_ev (n := 60) (by kernel_rfl)
theorem aw_i3 : C 13 [iS false [4, 1, -1] [], iS false [4, 1, -1] []] = some (iB true, [iS false [4, 1, -1] [], iS false [4, 1, -1] []]) := W_ev (n := 60) (by kernel_rfl)
theorem w_awake : C 7 [] = some (iB true, []) := by
  refine wfn (lk := []) rfl rfl (fnW_way (q7 _ _ _) ?_)
  refine ⟨_, _, w_words, _, _, _, _, _, _, _, _, aw_rule, condW_t rfl ⟨_, _, w_words, _, _, _, _, _, _, _, _, aw_rew, _, _, w_words, .inr ⟨_, _, _, _, _, _, _, _, _, _, _, aw_cl, _, _, w_words, .inl ⟨_, _, _, _, _, _, _, _, _, _, _, aw_cut, _, _, w_words, _, _, _, _, _, _, _, _, aw_err, ?_⟩⟩⟩⟩
  refine ⟨_, _, w_num _, condW_t rfl ⟨_, _, _, aw_i1, condW_t rfl ⟨_, _, _, aw_i2, condW_t rfl ⟨_, _, _, aw_i3, condW_t rfl (condW_t rfl ⟨_, _, w_num _, condW_t rfl (condW_t rfl ⟨_, _, w_num _, condW_t rfl ⟨_, _, _, aw_same, condW_t rfl (condW_t rfl ⟨_, _, w_num _, condW_t rfl ⟨_, _, _, aw_same, condW_t rfl ⟨_, _, w_num _, condW_t rfl rfl⟩⟩⟩)⟩⟩)⟩)⟩⟩⟩⟩
end Go.Proofs.YtollbcdhmnnjeaaDoor.Ab

/- Where a table's functions mark Insert. No condition. -/
namespace Go.Ab
open Go
theorem insOf_mem : ∀ {cv : List (Nat × Cv)} {g : FuncId} {e : TypeId}, insOf cv g = some e → (1000000 + g, Cv.own e) ∈ cv
  | [], g, e, h => by simp [insOf] at h
  | (i, c) :: r, g, e, h => by
    cases c with
    | own t =>
      simp only [insOf] at h
      split at h
      · rename_i hi; cases h; rw [hi]; exact List.mem_cons_self ..
      · exact List.mem_cons_of_mem _ (insOf_mem h)
    | _ => simp only [insOf] at h; exact List.mem_cons_of_mem _ (insOf_mem h)
theorem codeOf_mem : ∀ {l : List (FuncId × FnD)} {f : FuncId} {fn : FnD}, codeOf l f = some fn → ∃ p ∈ l, p.2 = fn
  | [], f, fn, h => by simp [codeOf] at h
  | p :: l, f, fn, h => by
    unfold codeOf at h
    split at h
    · cases h; exact ⟨p, List.mem_cons_self .., rfl⟩
    · obtain ⟨q, h1, h2⟩ := codeOf_mem h
      exact ⟨q, List.mem_cons_of_mem _ h1, h2⟩
def insChk (l : List (FuncId × FnD)) (G : FuncId) (T : TypeId) : Bool :=
  l.all fun p => p.2.cv.all fun c => match c.2 with | .own t => decide (c.1 < 1000000) || (decide (c.1 = 1000000 + G) && decide (t = T)) | _ => true
theorem insChk_ok {l : List (FuncId × FnD)} {G : FuncId} {T : TypeId} (h : insChk l G T = true) {f : FuncId} {fn : FnD} (hf : codeOf l f = some fn) {g : FuncId} {e : TypeId} (hg : insOf fn.cv g = some e) : g = G ∧ e = T := by
  obtain ⟨p, hp, rfl⟩ := codeOf_mem hf
  have h1 := List.all_eq_true.1 (List.all_eq_true.1 h p hp) _ (insOf_mem hg)
  simp only [Bool.or_eq_true, Bool.and_eq_true, decide_eq_true_eq] at h1
  rcases h1 with h1 | ⟨h1, h2⟩
  · exact absurd h1 (Nat.not_lt.2 (Nat.le_add_right _ _))
  · exact ⟨Nat.add_left_cancel h1, h2⟩
end Go.Ab

/- No function of this seat's table marks slices.Insert. No condition. -/
set_option linter.unusedVariables false
set_option maxRecDepth 100000
namespace Go.Proofs.YtollbcdhmnnjeaaDoor.Ab
open Go Go.Ab Go.Proofs
theorem insAll (f : FuncId) (fn : FnD) (hf : codeOf code f = some fn) (g : FuncId) (e : TypeId) (hg : insOf fn.cv g = some e) : InsOk Tryd.prog g e ∧ FnOk Tryd.prog g := by
  have h1 : (code.all fun p => p.2.cv.all fun c => match c.2 with | .own _ => decide (c.1 < 1000000) | _ => true) = true := by kernel_rfl
  obtain ⟨p, hp, rfl⟩ := codeOf_mem hf
  have h2 := List.all_eq_true.1 (List.all_eq_true.1 h1 p hp) _ (insOf_mem hg)
  exact absurd (of_decide_eq_true h2) (Nat.not_lt.2 (Nat.le_add_right _ _))
end Go.Proofs.YtollbcdhmnnjeaaDoor.Ab

/- slices.Grow of this seat's translation is the one of the library's contract. No condition. -/
set_option linter.unusedVariables false
set_option maxRecDepth 100000
namespace Go.Proofs.YtollbcdhmnnjeaaDoor.Ab
open Go Go.Ab Go.Proofs
def growRen : Go.Shelf.Ren := ⟨fun | 4 => 63 | n => n, fun | 0 => 0 | 3 => 3 | 4 => 4 | 9 => 9 | 20 => 20 | 22 => 23 | 25 => 3 | n => n, fun | n => n⟩
theorem growLays : Go.Proofs.Lays8.n4 Tryd.prog growRen := {
  mixed := by kernel_rfl
  f4 := ⟨Tryd.f63.name, by kernel_rfl, Tryd.func63.trans (congrArg some (by kernel_rfl))⟩
  t0 := Tryd.underlying0
  a0 := Tryd.isAgg0
  z0 := Tryd.sizeOf0
  v0 := Tryd.zeroValue0
  t3 := Tryd.underlying3
  a3 := Tryd.isAgg3
  z3 := Tryd.sizeOf3
  v3 := Tryd.zeroValue3
  t4 := Tryd.underlying4
  a4 := Tryd.isAgg4
  z4 := Tryd.sizeOf4
  v4 := Tryd.zeroValue4
  t9 := Tryd.underlying9
  a9 := Tryd.isAgg9
  z9 := Tryd.sizeOf9
  v9 := Tryd.zeroValue9
  t20 := Tryd.underlying20
  a20 := Tryd.isAgg20
  z20 := Tryd.sizeOf20
  v20 := Tryd.zeroValue20
  t22 := Tryd.underlying23
  a22 := Tryd.isAgg23
  z22 := Tryd.sizeOf23
  v22 := Tryd.zeroValue23 }
theorem growChk : (match Tryd.prog.info? 3 with | some i => (match i.zero with | some z => Nat.beq i.size 1 && (Nat.ble i.bytes 1000 && Nat.beq z.cells.size 1) | none => false) | none => false) = true := by kernel_rfl
theorem growInfo : ∃ i0 z, Tryd.prog.info? 3 = some i0 ∧ i0.zero = some z ∧ i0.size = 1 ∧ i0.bytes ≤ 1000 ∧ z.cells.size = 1 := by
  have h := growChk
  split at h
  · rename_i i hi
    split at h
    · rename_i z hz
      simp only [Bool.and_eq_true] at h
      exact ⟨i, z, hi, hz, Nat.eq_of_beq_eq_true h.1, Nat.le_of_ble_eq_true h.2.1, Nat.eq_of_beq_eq_true h.2.2⟩
    · cases h
  · cases h
theorem growFn : FnOk Tryd.prog 63 := ⟨_, Tryd.func63, by kernel_rfl, by kernel_rfl⟩
theorem primOk (f : FuncId) (p : List IV → Option (IV × List IV)) (args : List IV) (r : IV) (outs : List IV) (h : F.prim f = some p) (h2 : p args = some (r, outs)) : FnOk Tryd.prog f ∧ CallSpec Tryd.prog F.G f args r outs := by
  have h3 : (match (generalizing := false) f with | 63 => some (growP 3 1) | _ => none) = some p := h
  split at h3
  · simp only [Option.some.injEq] at h3
    subst h3
    obtain ⟨i0, z, k1, k2, k3, k4, k5⟩ := growInfo
    exact ⟨growFn, grow_spec growLays (sz := 1) k1 k2 k3 (by omega) k5 k4 h2⟩
  · cases h3
end Go.Proofs.YtollbcdhmnnjeaaDoor.Ab
