/- Clauses: what the reference may; copies; the same. For every input; no condition. -/
import Derived.Test.YtjoibdmiolcodaaGreatDoorStepReads0
import Derived.Test.YtjoibdmiolcodaaGreatDoorStepReads1
import Derived.Test.YtjoibdmiolcodaaGreatDoorStepReads2
import Derived.Test.YtjoibdmiolcodaaGreatDoorStepReads3
import Derived.Test.YtjoibdmiolcodaaGreatDoorStepReads4
import Derived.Test.YtjoibdmiolcodaaGreatDoorStepReads5
import Derived.Test.YtjoibdmiolcodaaGreatDoorStepReads6
import Derived.Test.YtjoibdmiolcodaaGreatDoorStepReads7
import Derived.Test.YtjoibdmiolcodaaGreatDoorStepReads8
import Derived.Test.YtjoibdmiolcodaaGreatDoorStepReads9
import Derived.Test.YtjoibdmiolcodaaGreatDoorStepReads10
import Derived.Test.YtjoibdmiolcodaaGreatDoorStepReads11
import Derived.Test.YtjoibdmiolcodaaGreatDoorStepReads12
set_option linter.unusedVariables false
set_option linter.unusedSimpArgs false
set_option maxRecDepth 100000
namespace Go.Proofs.YtjoibdmiolcodaaGreatDoor.Ab
open Go Go.Ab Go.Qu Go.Proofs
attribute [local simp] and_assoc
theorem terms_row {g : List Sym} (hg : sigB g = true) (r : List Int) : (rowB g r = true ∧ termsM g r = (termsN g r : Int)) ∨ (rowB g r = false ∧ termsM g r = -1) := by
  unfold rowB termsM termsN begsM
  cases h : rowP g r with
  | none => right; simp
  | some ts => left; simp [hg, begs_len]
theorem l_rclmay0 {g : List Sym} (hg : sigB g = true) (z : Bool) (e : List D) (c : Cl) (l0 : c.ls.length ≤ 1000) (l2 : c.ts.length ≤ 1000) (l3 : c.cs.length ≤ 1000) : ((∀ j, 0 ≤ j → j < c.ls.length → (fun i => match c.ls[i]? with | some l => atomB g l.r.l | none => true) j = true) ∧ evP F (Go.Ab.W F) (JW F d21 []) d21 [] [1,1,0,1] [(0, iG z g e), (3, .dbox 26 0 [.sl 2 c.lz (lits c.ls) c.le, .sl 1 c.tz (rws c.ts) c.te, .sl 2 c.cz (lits c.cs) c.ce]), (5, iI 0)] = some (.norm [(0, iG z g e), (3, .dbox 26 0 [.sl 2 c.lz (lits c.ls) c.le, .sl 1 c.tz (rws c.ts) c.te, .sl 2 c.cz (lits c.cs) c.ce]), (5, iI c.ls.length)])) ∨ ((∃ j, 0 ≤ j ∧ j < c.ls.length ∧ (fun i => match c.ls[i]? with | some l => atomB g l.r.l | none => true) j = false) ∧ evP F (Go.Ab.W F) (JW F d21 []) d21 [] [1,1,0,1] [(0, iG z g e), (3, .dbox 26 0 [.sl 2 c.lz (lits c.ls) c.le, .sl 1 c.tz (rws c.ts) c.te, .sl 2 c.cz (lits c.cs) c.ce]), (5, iI 0)] = some (.ret [(4, iB false)])) := by
  have hso := sigOk hg
  exact blk_all (F := F) (d := d21) (lk := []) (p := [1,1,0,1,0,0]) (p0 := [1,1,0,1]) (by kernel_rfl) (n := c.ls.length) (id := 0) (st := fun i => [(0, iG z g e), (3, .dbox 26 0 [.sl 2 c.lz (lits c.ls) c.le, .sl 1 c.tz (rws c.ts) c.te, .sl 2 c.cz (lits c.cs) c.ce]), (5, iI i)]) (q := fun i => match c.ls[i]? with | some l => atomB g l.r.l | none => true) (rt := [(4, iB false)]) (e := [(0, iG z g e), (3, .dbox 26 0 [.sl 2 c.lz (lits c.ls) c.le, .sl 1 c.tz (rws c.ts) c.te, .sl 2 c.cz (lits c.cs) c.ce]), (5, iI c.ls.length)])
    (fun i hi hq => by
      obtain ⟨l, hl⟩ := at_lt hi
      rw [hl] at hq
      dsimp only at hq
      have hm := w_rlitmay z g e l.neg l.r.z l.r.l l.r.e
      have hi' : (i : Int) < c.ls.length := by omega
      exact wpQ_way (q21_l0a _ _ z (syms g) e c.lz (lits c.ls) c.le c.tz (rws c.ts) c.te c.cz (lits c.cs) c.ce i _) (by simp [-Bool.exists_bool, -getElem?_pos, -Int.natCast_add, lits_len, hi', lits_at hl, hm, hq, wr1 hi (by omega)]))
    (fun i hi hq => by
      obtain ⟨l, hl⟩ := at_lt hi
      rw [hl] at hq
      dsimp only at hq
      have hm := w_rlitmay z g e l.neg l.r.z l.r.l l.r.e
      have hi' : (i : Int) < c.ls.length := by omega
      exact wpQ_way (q21_l0a _ _ z (syms g) e c.lz (lits c.ls) c.le c.tz (rws c.ts) c.te c.cz (lits c.cs) c.ce i _) (by simp [-Bool.exists_bool, -getElem?_pos, -Int.natCast_add, lits_len, hi', lits_at hl, hm, hq]))
    (wpQ_way (q21_l0a _ _ z (syms g) e c.lz (lits c.ls) c.le c.tz (rws c.ts) c.te c.cz (lits c.cs) c.ce _ _) (by simp [lits_len])) 0 (Nat.zero_le _)
theorem l_rclmay2 {g : List Sym} (hg : sigB g = true) (z : Bool) (e : List D) (c : Cl) (l0 : c.ls.length ≤ 1000) (l2 : c.ts.length ≤ 1000) (l3 : c.cs.length ≤ 1000) : ((∀ j, 0 ≤ j → j < c.cs.length → (fun i => match c.cs[i]? with | some l => atomB g l.r.l | none => true) j = true) ∧ evP F (Go.Ab.W F) (JW F d21 []) d21 [] [1,1,1,0,1] [(0, iG z g e), (3, .dbox 26 0 [.sl 2 c.lz (lits c.ls) c.le, .sl 1 c.tz (rws c.ts) c.te, .sl 2 c.cz (lits c.cs) c.ce]), (6, iI 0)] = some (.norm [(0, iG z g e), (3, .dbox 26 0 [.sl 2 c.lz (lits c.ls) c.le, .sl 1 c.tz (rws c.ts) c.te, .sl 2 c.cz (lits c.cs) c.ce]), (6, iI c.cs.length)])) ∨ ((∃ j, 0 ≤ j ∧ j < c.cs.length ∧ (fun i => match c.cs[i]? with | some l => atomB g l.r.l | none => true) j = false) ∧ evP F (Go.Ab.W F) (JW F d21 []) d21 [] [1,1,1,0,1] [(0, iG z g e), (3, .dbox 26 0 [.sl 2 c.lz (lits c.ls) c.le, .sl 1 c.tz (rws c.ts) c.te, .sl 2 c.cz (lits c.cs) c.ce]), (6, iI 0)] = some (.ret [(4, iB false)])) := by
  have hso := sigOk hg
  exact blk_all (F := F) (d := d21) (lk := []) (p := [1,1,1,0,1,0,0]) (p0 := [1,1,1,0,1]) (by kernel_rfl) (n := c.cs.length) (id := 2) (st := fun i => [(0, iG z g e), (3, .dbox 26 0 [.sl 2 c.lz (lits c.ls) c.le, .sl 1 c.tz (rws c.ts) c.te, .sl 2 c.cz (lits c.cs) c.ce]), (6, iI i)]) (q := fun i => match c.cs[i]? with | some l => atomB g l.r.l | none => true) (rt := [(4, iB false)]) (e := [(0, iG z g e), (3, .dbox 26 0 [.sl 2 c.lz (lits c.ls) c.le, .sl 1 c.tz (rws c.ts) c.te, .sl 2 c.cz (lits c.cs) c.ce]), (6, iI c.cs.length)])
    (fun i hi hq => by
      obtain ⟨l, hl⟩ := at_lt hi
      rw [hl] at hq
      dsimp only at hq
      have hm := w_rlitmay z g e l.neg l.r.z l.r.l l.r.e
      have hi' : (i : Int) < c.cs.length := by omega
      exact wpQ_way (q21_l2b _ _ z (syms g) e c.lz (lits c.ls) c.le c.tz (rws c.ts) c.te c.cz (lits c.cs) c.ce i _) (by simp [-Bool.exists_bool, -getElem?_pos, -Int.natCast_add, lits_len, hi', lits_at hl, hm, hq, wr1 hi (by omega)]))
    (fun i hi hq => by
      obtain ⟨l, hl⟩ := at_lt hi
      rw [hl] at hq
      dsimp only at hq
      have hm := w_rlitmay z g e l.neg l.r.z l.r.l l.r.e
      have hi' : (i : Int) < c.cs.length := by omega
      exact wpQ_way (q21_l2b _ _ z (syms g) e c.lz (lits c.ls) c.le c.tz (rws c.ts) c.te c.cz (lits c.cs) c.ce i _) (by simp [-Bool.exists_bool, -getElem?_pos, -Int.natCast_add, lits_len, hi', lits_at hl, hm, hq]))
    (wpQ_way (q21_l2b _ _ z (syms g) e c.lz (lits c.ls) c.le c.tz (rws c.ts) c.te c.cz (lits c.cs) c.ce _ _) (by simp [lits_len])) 0 (Nat.zero_le _)
theorem l_rclmay4 {g : List Sym} (hg : sigB g = true) (z : Bool) (e : List D) (c : Cl) (l0 : c.ls.length ≤ 1000) (l2 : c.ts.length ≤ 1000) (l3 : c.cs.length ≤ 1000) : ((∀ j, 0 ≤ j → j < c.ts.length → (fun i => match c.ts[i]?, c.ts[0]? with | some r, some s => decide (0 ≤ termsM g r.l) && (termsM g r.l == termsM g s.l) | _, _ => true) j = true) ∧ evP F (Go.Ab.W F) (JW F d21 []) d21 [] [1,1,1,1,0,1] [(0, iG z g e), (3, .dbox 26 0 [.sl 2 c.lz (lits c.ls) c.le, .sl 1 c.tz (rws c.ts) c.te, .sl 2 c.cz (lits c.cs) c.ce]), (7, iI 0)] = some (.norm [(0, iG z g e), (3, .dbox 26 0 [.sl 2 c.lz (lits c.ls) c.le, .sl 1 c.tz (rws c.ts) c.te, .sl 2 c.cz (lits c.cs) c.ce]), (7, iI c.ts.length)])) ∨ ((∃ j, 0 ≤ j ∧ j < c.ts.length ∧ (fun i => match c.ts[i]?, c.ts[0]? with | some r, some s => decide (0 ≤ termsM g r.l) && (termsM g r.l == termsM g s.l) | _, _ => true) j = false) ∧ evP F (Go.Ab.W F) (JW F d21 []) d21 [] [1,1,1,1,0,1] [(0, iG z g e), (3, .dbox 26 0 [.sl 2 c.lz (lits c.ls) c.le, .sl 1 c.tz (rws c.ts) c.te, .sl 2 c.cz (lits c.cs) c.ce]), (7, iI 0)] = some (.ret [(4, iB false)])) := by
  have hso := sigOk hg
  exact blk_all (F := F) (d := d21) (lk := []) (p := [1,1,1,1,0,1,0,0]) (p0 := [1,1,1,1,0,1]) (by kernel_rfl) (n := c.ts.length) (id := 4) (st := fun i => [(0, iG z g e), (3, .dbox 26 0 [.sl 2 c.lz (lits c.ls) c.le, .sl 1 c.tz (rws c.ts) c.te, .sl 2 c.cz (lits c.cs) c.ce]), (7, iI i)]) (q := fun i => match c.ts[i]?, c.ts[0]? with | some r, some s => decide (0 ≤ termsM g r.l) && (termsM g r.l == termsM g s.l) | _, _ => true) (rt := [(4, iB false)]) (e := [(0, iG z g e), (3, .dbox 26 0 [.sl 2 c.lz (lits c.ls) c.le, .sl 1 c.tz (rws c.ts) c.te, .sl 2 c.cz (lits c.cs) c.ce]), (7, iI c.ts.length)])
    (fun i hi hq => by
      obtain ⟨r, hr⟩ := at_lt hi
      obtain ⟨s, hs⟩ := at_lt (l := c.ts) (i := 0) (by omega)
      rw [hr, hs] at hq
      simp only [Bool.and_eq_true, beq_iff_eq, decide_eq_true_eq] at hq
      have hi' : (i : Int) < c.ts.length := by omega
      have hm := w_rterms hso z r.z e r.e r.l
      have hm2 := w_rterms hso z s.z e s.e s.l
      rw [← hq.2] at hm2
      have hn : ¬ termsM g r.l < 0 := by omega
      exact wpQ_way (q21_l4b _ _ z (syms g) e c.lz (lits c.ls) c.le c.tz (rws c.ts) c.te c.cz (lits c.cs) c.ce i _) (by simp [-Bool.exists_bool, -getElem?_pos, -Int.natCast_add, rws_len, hi', rws_at hr, rws_at hs, hm, hm2, hn, hq.1, wr1 hi (by omega)]))
    (fun i hi hq => by
      obtain ⟨r, hr⟩ := at_lt hi
      obtain ⟨s, hs⟩ := at_lt (l := c.ts) (i := 0) (by omega)
      rw [hr, hs] at hq
      have hi' : (i : Int) < c.ts.length := by omega
      have hm := w_rterms hso z r.z e r.e r.l
      have hm2 := w_rterms hso z s.z e s.e s.l
      refine wpQ_way (q21_l4b _ _ z (syms g) e c.lz (lits c.ls) c.le c.tz (rws c.ts) c.te c.cz (lits c.cs) c.ce i _) ?_
      by_cases hn : termsM g r.l < 0
      · have hn2 : ¬ 0 ≤ termsM g r.l := by omega
        simp [-Bool.exists_bool, -getElem?_pos, -Int.natCast_add, rws_len, hi', rws_at hr, rws_at hs, hm, hm2, hn, hn2]
      · have hn' : 0 ≤ termsM g r.l := by omega
        simp [hn'] at hq
        simp [-Bool.exists_bool, -getElem?_pos, -Int.natCast_add, rws_len, hi', rws_at hr, rws_at hs, hm, hm2, hn, hn', hq])
    (wpQ_way (q21_l4b _ _ z (syms g) e c.lz (lits c.ls) c.le c.tz (rws c.ts) c.te c.cz (lits c.cs) c.ce _ _) (by simp [rws_len])) 0 (Nat.zero_le _)
theorem lits_all_at {g : List Sym} (ls : List LitR) : (∀ j, 0 ≤ j → j < ls.length → (match ls[j]? with | some l => atomB g l.r.l | none => true) = true) → litsB g ls = true := fun h => by
    unfold litsB
    rw [List.all_eq_true]
    intro l hl
    obtain ⟨i, hi, he⟩ := List.getElem_of_mem hl
    have := h i (Nat.zero_le _) hi
    rw [List.getElem?_eq_getElem hi, he] at this
    exact this
theorem lits_not_at {g : List Sym} (ls : List LitR) : (∃ j, 0 ≤ j ∧ j < ls.length ∧ (match ls[j]? with | some l => atomB g l.r.l | none => true) = false) → litsB g ls = false := fun ⟨j, _, hj, h⟩ => by
    unfold litsB
    rw [List.all_eq_false]
    refine ⟨ls[j], List.getElem_mem hj, ?_⟩
    rw [List.getElem?_eq_getElem hj] at h
    dsimp only at h
    rw [h]; simp
theorem lenR_append : ∀ (a b : List Row), lenR (a ++ b) = lenR a + lenR b
  | [], b => by simp [lenR]
  | r :: a, b => by simp [lenR, lenR_append a b]; omega
theorem lenR_map : ∀ (ls : List LitR), lenR (ls.map (·.r)) = lenL ls
  | [] => rfl
  | l :: ls => by simp [lenR, lenL, lenR_map ls]
theorem lenR_rowsOf (c : Cl) : lenR (rowsOf c) = lenL c.ls + lenR c.ts + lenL c.cs := by
  unfold rowsOf; rw [lenR_append, lenR_append, lenR_map, lenR_map]
theorem rowsOf_le {g : List Sym} {c : Cl} (h1 : litsB g c.ls = true) (h2 : rowsB g c.ts = true) (h3 : litsB g c.cs = true) : ∀ r ∈ rowsOf c, r.l.length ≤ 49 := by
  intro r hr
  unfold rowsOf at hr
  unfold litsB at h1 h3
  rw [List.all_eq_true] at h1 h3
  rcases List.mem_append.1 hr with hr | hr
  · rcases List.mem_append.1 hr with hr | hr
    · obtain ⟨l, hl, rfl⟩ := List.mem_map.1 hr
      exact (atom_codes (h1 l hl)).1
    · cases hts : c.ts with
      | nil => rw [hts] at hr; simp at hr
      | cons r0 tl =>
        rw [hts] at h2 hr
        unfold rowsB rowsF at h2
        rw [List.all_eq_true] at h2
        have := h2 r hr
        simp only [Bool.and_eq_true] at this
        have := rowB_len this.1
        omega
  · obtain ⟨l, hl, rfl⟩ := List.mem_map.1 hr
    exact (atom_codes (h3 l hl)).1
theorem l_rclmay6 {R : List Row} (b : Bool) (hn : R.length ≤ 3000) (hR : ∀ r ∈ R, r.l.length ≤ 49) : evP F (Go.Ab.W F) (JW F d21 []) d21 [] [1,1,1,1,1,1,1,0,1] [(9, .own b 48 1 (rws R)), (10, iI 0), (11, iI 0)] = some (.norm [(9, .own b 48 1 (rws R)), (10, iI (lenR R)), (11, iI R.length)]) := by
  have h1 := fun x hx => blk_fun (F := F) (d := d21) (lk := []) (p := [1,1,1,1,1,1,1,0,1,0,0]) (p0 := [1,1,1,1,1,1,1,0,1]) (id := 6) (by kernel_rfl) (st := fun (x : Nat × Nat) => [(9, .own b 48 1 (rws R)), (10, iI x.2), (11, iI x.1)]) (I := fun x => x.1 ≤ R.length ∧ x.2 ≤ 49 * x.1) (μ := fun x => R.length - x.1)
    (res := fun x => .norm [(9, .own b 48 1 (rws R)), (10, iI (x.2 + lenR (R.drop x.1) : Nat)), (11, iI R.length)])
    (fun x hx => by
      obtain ⟨i, k⟩ := x
      obtain ⟨hx1, hx2⟩ := hx
      dsimp only at hx1 hx2
      by_cases hi : i < R.length
      · obtain ⟨r, hr⟩ := at_lt hi
        have hd : R.drop i = r :: R.drop (i + 1) := by
          rw [List.drop_eq_getElem_cons hi]
          rw [List.getElem?_eq_getElem hi] at hr
          cases hr; rfl
        have hl := hR r (List.mem_of_getElem? hr)
        have hi' : (i : Int) < R.length := by omega
        have hw : IntKind.wrap .i64 ((k : Int) + (r.l.length : Int)) = ((k + r.l.length : Nat) : Int) := by rw [wr _ (by omega) (by omega)]; omega
        refine .go (i + 1, k + r.l.length) (wpQ_way (q21_l6a _ _ b (rws R) k i _) ?_) ⟨by dsimp only; omega, by dsimp only; omega⟩ (by dsimp only; omega) ?_
        · simp [-Bool.exists_bool, -getElem?_pos, -Int.natCast_add, rws_len, hi', rws_at hr, ints_len, hw, wr1 hi (by omega)]
        · dsimp only; rw [hd, lenR, ← Nat.add_assoc]
      · have e1 : i = R.length := by omega
        subst e1
        refine .stop (.exit 6 [(9, .own b 48 1 (rws R)), (10, iI k), (11, iI R.length)]) (wpQ_way (q21_l6a _ _ b (rws R) k _ _) (by simp [rws_len])) rfl ?_
        simp [blkO, lenR]) x hx
  have h2 := h1 (0, 0) ⟨Nat.zero_le _, Nat.le_refl _⟩
  simp only [List.drop_zero, Nat.zero_add, Int.natCast_zero] at h2
  exact h2
theorem w_rclmay (z : Bool) (g : List Sym) (e : List D) (c : Cl) : C 21 [iG z g e, iC c] = some (iB (clB g c), [iG z g e, iC c]) := by
  refine wfn (lk := []) rfl rfl (fnW_way (q21 _ _ z (syms g) e c.lz (lits c.ls) c.le c.tz (rws c.ts) c.te c.cz (lits c.cs) c.ce _) ?_)
  have h1 := w_rmay z g e
  cases hg : sigB g
  · simp [-Bool.exists_bool, h1, hg, clB]
  by_cases l1 : c.ls.length ≤ 5
  rotate_left
  · have l1' : 5 < (c.ls.length : Int) := by omega
    simp [-Bool.exists_bool, h1, hg, clB, lits_len, l1, l1']
  have l1' : ¬ 5 < (c.ls.length : Int) := by omega
  by_cases l3 : c.cs.length ≤ 3
  rotate_left
  · have l3' : 3 < (c.cs.length : Int) := by omega
    simp [-Bool.exists_bool, h1, hg, clB, lits_len, rws_len, l1, l1', l3, l3']
  have l3' : ¬ 3 < (c.cs.length : Int) := by omega
  by_cases l2 : c.ts.length ≤ 3
  rotate_left
  · have l2' : 3 < (c.ts.length : Int) := by omega
    simp [-Bool.exists_bool, h1, hg, clB, lits_len, rws_len, l1, l1', l2, l2', l3, l3']
  have l2' : ¬ 3 < (c.ts.length : Int) := by omega
  have b1 := l_rclmay0 hg z e c (by omega) (by omega) (by omega)
  have b2 := l_rclmay2 hg z e c (by omega) (by omega) (by omega)
  have b3 := l_rclmay4 hg z e c (by omega) (by omega) (by omega)
  rw [hg] at h1
  refine ⟨true, _, h1, ?_⟩
  rw [condW_tt, condW_d, if_neg (by rw [lits_len]; omega), condW_d, if_neg (by rw [lits_len]; omega), condW_d, if_neg (by rw [rws_len]; omega)]
  rcases b1 with ⟨a1, a2⟩ | ⟨a1, a2⟩
  rotate_left
  · have hb := lits_not_at _ a1
    have hcl : clB g c = false := by simp [clB, hb]
    exact .inl ⟨_, a2, by rw [hcl]⟩
  have hb := lits_all_at _ a1
  refine .inr ⟨_, _, _, _, _, _, _, _, _, _, _, _, _, a2, ?_⟩
  rcases b2 with ⟨c1, c2⟩ | ⟨c1, c2⟩
  rotate_left
  · have hc := lits_not_at _ c1
    have hcl : clB g c = false := by simp [clB, hc]
    exact .inl ⟨_, c2, by rw [hcl]⟩
  have hc := lits_all_at _ c1
  refine .inr ⟨_, _, _, _, _, _, _, _, _, _, _, _, _, c2, ?_⟩
  rcases b3 with ⟨d1, d2⟩ | ⟨d1, d2⟩
  rotate_left
  · have hd : rowsB g c.ts = false := by
      obtain ⟨j, _, hj, hq⟩ := d1
      obtain ⟨r, hr⟩ := at_lt hj
      cases hts : c.ts with
      | nil => rw [hts] at hj; simp at hj
      | cons r0 tl =>
        rw [hts] at hr hq
        dsimp only at hq
        rw [hr] at hq
        simp only [List.getElem?_cons_zero] at hq
        unfold rowsB rowsF
        rw [List.all_eq_false]
        rcases terms_row hg r0.l with ⟨i1, i2⟩ | ⟨i1, i2⟩
        · rcases terms_row hg r.l with ⟨k1, k2⟩ | ⟨k1, k2⟩
          · refine ⟨r, List.mem_of_getElem? hr, fun hcc => ?_⟩
            simp only [Bool.and_eq_true, beq_iff_eq] at hcc
            rw [k2, i2, hcc.2] at hq; simp at hq
          · exact ⟨r, List.mem_of_getElem? hr, fun hcc => by rw [k1] at hcc; simp at hcc⟩
        · exact ⟨r0, by simp, fun hcc => by rw [i1] at hcc; simp at hcc⟩
    have hcl : clB g c = false := by simp [clB, hd]
    exact .inl ⟨_, d2, by rw [hcl]⟩
  have hd : rowsB g c.ts = true := by
    cases hts : c.ts with
    | nil => rfl
    | cons r0 tl =>
      unfold rowsB rowsF
      rw [List.all_eq_true]
      intro r hr
      obtain ⟨j, hj, he⟩ := List.getElem_of_mem hr
      have q0 := d1 0 (Nat.le_refl _) (by rw [hts]; simp)
      have qj := d1 j (Nat.zero_le _) (by rw [hts]; exact hj)
      rw [hts] at q0 qj
      dsimp only at q0 qj
      rw [List.getElem?_eq_getElem hj, he] at qj
      simp only [List.getElem?_cons_zero, Bool.and_eq_true, beq_iff_eq, decide_eq_true_eq] at q0 qj
      rcases terms_row hg r0.l with ⟨i1, i2⟩ | ⟨i1, i2⟩
      · rcases terms_row hg r.l with ⟨k1, k2⟩ | ⟨k1, k2⟩
        · rw [k1]
          rw [k2, i2] at qj
          have : termsN g r.l = termsN g r0.l := by omega
          simp [this]
        · rw [k2] at qj; omega
      · rw [i2] at q0; omega
  refine .inr ⟨_, _, _, _, _, _, _, _, _, _, _, _, _, d2, ?_⟩
  have e1 := w_rrows (c := c) (by omega) (by omega) (by omega)
  have hle := rowsOf_le hb hd hc
  have e2 := l_rclmay6 (rowsOf c).isEmpty (R := rowsOf c) (by unfold rowsOf; simp; omega) hle
  rw [lenR_rowsOf] at e2
  refine ⟨_, _, _, e1, _, _, _, _, e2, ?_⟩
  by_cases k : lenL c.ls + lenR c.ts + lenL c.cs ≤ 240
  · have hcl : clB g c = true := by simp [clB, hg, l1, l2, l3, hb, hc, hd, k]
    rw [condW_d, if_pos (by omega), hcl]
  · have hcl : clB g c = false := by simp [clB, k]
    rw [condW_d, if_neg (by omega), hcl]
end Go.Proofs.YtjoibdmiolcodaaGreatDoor.Ab

/- Clauses: copies; the same. For every input; no condition. -/
set_option linter.unusedVariables false
set_option linter.unusedSimpArgs false
set_option maxRecDepth 100000
namespace Go.Proofs.YtjoibdmiolcodaaGreatDoor.Ab
open Go Go.Ab Go.Qu Go.Proofs
attribute [local simp] and_assoc
def LitsIn (ls : List LitR) : Prop := ls.length * 32 ≤ 140737488351232 ∧ ∀ l ∈ ls, Len l.r.l
/-- What counts of literals. -/
def ks (l : LitR) : Bool × List Int := (l.neg, l.r.l)
theorem w_samelits {a : List LitR} (ha : LitsIn a) (b : List LitR) (z z' : Bool) (e e' : List D) : C 51 [iL z a e, iL z' b e'] = some (iB (decide (a.map ks = b.map ks)), [iL z a e, iL z' b e']) := by
  obtain ⟨hn, hr⟩ := ha
  refine wfn (lk := []) rfl rfl (fnW_way (q51 _ _ z (lits a) e z' (lits b) e' _) ?_)
  by_cases hl : a.length = b.length
  rotate_left
  · have e1 : ¬ (a.length : Int) = b.length := by omega
    have e2 : ¬ a.map ks = b.map ks := fun h => hl (by have := congrArg List.length h; simpa using this)
    simp [lits_len, e1, e2]
  rcases blk_all (F := F) (d := d51) (lk := []) (p := [1,1,0,1,0,0]) (p0 := [1,1,0,1]) (by kernel_rfl) (n := a.length) (id := 0) (st := fun i => [(0, iL z a e), (1, iL z' b e'), (5, iI i)]) (q := fun i => (a[i]?.map ks) == (b[i]?.map ks)) (rt := [(4, iB false)]) (e := [(0, iL z a e), (1, iL z' b e'), (5, iI a.length)])
    (fun i hi hq => by
      obtain ⟨x, hx⟩ := at_lt hi
      obtain ⟨y, hy⟩ := at_lt (show i < b.length by omega)
      have hxa := lits_at hx; have hya := lits_at hy
      simp [hx, hy, ks] at hq
      have hs := w_sameints (hr x (List.mem_of_getElem? hx)) y.r.l x.r.z y.r.z x.r.e y.r.e
      have hi' : (i : Int) < a.length := by omega
      rw [hq.2] at hs hxa
      refine wpQ_way (q51_l0a _ _ z (lits a) e z' (lits b) e' i _) ?_
      rw [hq.1] at hxa
      cases hneg : y.neg <;> rw [hneg] at hxa hya <;> simp [-Bool.exists_bool, -getElem?_pos, -Int.natCast_add, lits_len, wr1 hi (by omega), hi', hxa, hya, hs])
    (fun i hi hq => by
      obtain ⟨x, hx⟩ := at_lt hi
      obtain ⟨y, hy⟩ := at_lt (show i < b.length by omega)
      have hxa := lits_at hx; have hya := lits_at hy
      simp [hx, hy, ks] at hq
      have hs := w_sameints (hr x (List.mem_of_getElem? hx)) y.r.l x.r.z y.r.z x.r.e y.r.e
      have hi' : (i : Int) < a.length := by omega
      refine wpQ_way (q51_l0a _ _ z (lits a) e z' (lits b) e' i _) ?_
      cases hnx : x.neg <;> cases hny : y.neg <;> rw [hnx] at hxa <;> rw [hny] at hya <;> simp [hnx, hny] at hq <;> simp [-Bool.exists_bool, -getElem?_pos, -Int.natCast_add, lits_len, hi', hxa, hya, hs, hq])
    (wpQ_way (q51_l0a _ _ z (lits a) e z' (lits b) e' a.length _) (by simp [lits_len])) 0 (Nat.zero_le _) with ⟨h2, h3⟩ | ⟨⟨j, h2, h4, h5⟩, h3⟩
  · have hab : a.map ks = b.map ks := by
      refine List.ext_getElem? (fun i => ?_)
      by_cases hi : i < a.length
      · have := h2 i (Nat.zero_le _) hi
        simpa using this
      · rw [List.getElem?_eq_none (by simpa using hi), List.getElem?_eq_none (by simp; omega)]
    simp at h3
    simp [lits_len, hl, hab, h3]
  · have hab : ¬ a.map ks = b.map ks := fun h => by
      have := congrArg (·[j]?) h
      simp at this h5
      exact h5 this
    simp at h3
    simp [lits_len, hl, hab, h3]
/-- What a clause is made of. -/
structure ClIn (c : Cl) : Prop where
  ls : LitsIn c.ls
  most : c.ts.length * 24 ≤ 140737488351232
  rows : ∀ r ∈ c.ts, Len r.l
  cs : LitsIn c.cs
def clKey (c : Cl) : List (Bool × List Int) × List (List Int) × List (Bool × List Int) := (c.ls.map ks, c.ts.map (·.l), c.cs.map ks)
theorem w_sameclause {c : Cl} (h : ClIn c) (c' : Cl) : C 33 [iC c, iC c'] = some (iB (decide (clKey c = clKey c')), [iC c, iC c']) := by
  refine wfn (lk := []) rfl rfl (fnW_way (q33 _ _ c.lz (lits c.ls) c.le c.tz (rws c.ts) c.te c.cz (lits c.cs) c.ce c'.lz (lits c'.ls) c'.le c'.tz (rws c'.ts) c'.te c'.cz (lits c'.cs) c'.ce _) ?_)
  have h1 := w_samelits h.ls c'.ls c.lz c'.lz c.le c'.le
  have h2 := w_samerows h.most h.rows c'.ts c.tz c'.tz c.te c'.te
  have h3 := w_samelits h.cs c'.cs c.cz c'.cz c.ce c'.ce
  refine ⟨_, _, _, h1, ?_⟩
  by_cases k1 : c.ls.map ks = c'.ls.map ks
  rotate_left
  · simp [k1, clKey]
  rw [decide_eq_true k1, condW_tt]
  refine ⟨_, _, _, h2, ?_⟩
  by_cases k2 : c.ts.map (·.l) = c'.ts.map (·.l)
  rotate_left
  · simp [k2, clKey]
  rw [decide_eq_true k2, condW_tt]
  refine ⟨_, _, _, h3, ?_⟩
  by_cases k3 : c.cs.map ks = c'.cs.map ks
  · simp [k1, k2, k3, clKey]
  · simp [k3, clKey]
end Go.Proofs.YtjoibdmiolcodaaGreatDoor.Ab

/- Where a table's functions mark Insert. No condition. -/
namespace Go.Ab
open Go
theorem insOf_mem : ∀ {cv : List (Nat × Cv)} {g : FuncId} {e : TypeId}, insOf cv g = some e → (1000000 + g, Cv.own e) ∈ cv
  | [], g, e, h => by simp [insOf] at h
  | (i, c) :: r, g, e, h => by
    cases c with
    | own t =>
      simp only [insOf] at h
      split at h
      · rename_i hi; cases h; rw [hi]; exact List.mem_cons_self ..
      · exact List.mem_cons_of_mem _ (insOf_mem h)
    | _ => simp only [insOf] at h; exact List.mem_cons_of_mem _ (insOf_mem h)
theorem codeOf_mem : ∀ {l : List (FuncId × FnD)} {f : FuncId} {fn : FnD}, codeOf l f = some fn → ∃ p ∈ l, p.2 = fn
  | [], f, fn, h => by simp [codeOf] at h
  | p :: l, f, fn, h => by
    unfold codeOf at h
    split at h
    · cases h; exact ⟨p, List.mem_cons_self .., rfl⟩
    · obtain ⟨q, h1, h2⟩ := codeOf_mem h
      exact ⟨q, List.mem_cons_of_mem _ h1, h2⟩
end Go.Ab

/- No function of this seat's table marks slices.Insert. No condition. -/
set_option linter.unusedVariables false
set_option maxRecDepth 100000
namespace Go.Proofs.YtjoibdmiolcodaaGreatDoor.Ab
open Go Go.Ab Go.Proofs
theorem insAll (f : FuncId) (fn : FnD) (hf : codeOf code f = some fn) (g : FuncId) (e : TypeId) (hg : insOf fn.cv g = some e) : InsOk Tryz.prog g e ∧ FnOk Tryz.prog g := by
  have h1 : (code.all fun p => p.2.cv.all fun c => match c.2 with | .own _ => decide (c.1 < 1000000) | _ => true) = true := by kernel_rfl
  obtain ⟨p, hp, rfl⟩ := codeOf_mem hf
  have h2 := List.all_eq_true.1 (List.all_eq_true.1 h1 p hp) _ (insOf_mem hg)
  exact absurd (of_decide_eq_true h2) (Nat.not_lt.2 (Nat.le_add_right _ _))
end Go.Proofs.YtjoibdmiolcodaaGreatDoor.Ab

/- Itoa, Join, Split, Atoi of this seat's translation are those of the library's contracts. No condition. -/
set_option linter.unusedVariables false
set_option maxRecDepth 100000
namespace Go.Proofs.YtjoibdmiolcodaaGreatDoor.Ab
open Go Go.Ab Go.Proofs
def lays171_ren : Go.Shelf.Ren := ⟨fun | 171 => 37 | 243 => 54 | 246 => 72 | 283 => 88 | 284 => 89 | 285 => 90 | 286 => 91 | 129 => 105 | 317 => 104 | 318 => 106 | 319 => 107 | 320 => 108 | 337 => 114 | 338 => 115 | n => n, fun | 3 => 3 | 9 => 9 | 2 => 2 | 4 => 4 | 171 => 124 | 0 => 0 | 53 => 125 | 37 => 74 | 5 => 5 | 173 => 128 | 212 => 143 | 51 => 144 | 20 => 20 | 213 => 145 | 46 => 135 | 232 => 160 | 233 => 161 | n => n, fun | 17 => 4 | 18 => 7 | 19 => 8 | n => n⟩
theorem lays171 : Go.Proofs.LaysM.n171 Tryz.prog lays171_ren := {
  mixed := by kernel_rfl
  f129 := Tryz.func105.trans (congrArg some (by kernel_rfl))
  f171 := Tryz.func37.trans (congrArg some (by kernel_rfl))
  f243 := Tryz.func54.trans (congrArg some (by kernel_rfl))
  f246 := Tryz.func72.trans (congrArg some (by kernel_rfl))
  f283 := Tryz.func88.trans (congrArg some (by kernel_rfl))
  f284 := Tryz.func89.trans (congrArg some (by kernel_rfl))
  f285 := Tryz.func90.trans (congrArg some (by kernel_rfl))
  f286 := Tryz.func91.trans (congrArg some (by kernel_rfl))
  f317 := Tryz.func104.trans (congrArg some (by kernel_rfl))
  f318 := Tryz.func106.trans (congrArg some (by kernel_rfl))
  f319 := Tryz.func107.trans (congrArg some (by kernel_rfl))
  f320 := Tryz.func108.trans (congrArg some (by kernel_rfl))
  f337 := Tryz.func114.trans (congrArg some (by kernel_rfl))
  f338 := Tryz.func115.trans (congrArg some (by kernel_rfl))
  t0 := Tryz.underlying0
  a0 := Tryz.isAgg0
  z0 := Tryz.sizeOf0
  v0 := Tryz.zeroValue0
  t2 := Tryz.underlying2
  a2 := Tryz.isAgg2
  z2 := Tryz.sizeOf2
  v2 := Tryz.zeroValue2
  t3 := Tryz.underlying3
  a3 := Tryz.isAgg3
  z3 := Tryz.sizeOf3
  v3 := Tryz.zeroValue3
  t4 := Tryz.underlying4
  a4 := Tryz.isAgg4
  z4 := Tryz.sizeOf4
  v4 := Tryz.zeroValue4
  t5 := Tryz.underlying5
  a5 := Tryz.isAgg5
  z5 := Tryz.sizeOf5
  v5 := Tryz.zeroValue5
  t9 := Tryz.underlying9
  a9 := Tryz.isAgg9
  z9 := Tryz.sizeOf9
  v9 := Tryz.zeroValue9
  t20 := Tryz.underlying20
  a20 := Tryz.isAgg20
  z20 := Tryz.sizeOf20
  v20 := Tryz.zeroValue20
  t37 := Tryz.underlying74
  a37 := Tryz.isAgg74
  z37 := Tryz.sizeOf74
  v37 := Tryz.zeroValue74
  t46 := Tryz.underlying135
  a46 := Tryz.isAgg135
  z46 := Tryz.sizeOf135
  v46 := Tryz.zeroValue135
  t51 := Tryz.underlying144
  a51 := Tryz.isAgg144
  z51 := Tryz.sizeOf144
  v51 := Tryz.zeroValue144
  t53 := Tryz.underlying125
  a53 := Tryz.isAgg125
  z53 := Tryz.sizeOf125
  v53 := Tryz.zeroValue125
  t171 := Tryz.underlying124
  a171 := Tryz.isAgg124
  z171 := Tryz.sizeOf124
  v171 := Tryz.zeroValue124
  t173 := Tryz.underlying128
  a173 := Tryz.isAgg128
  z173 := Tryz.sizeOf128
  v173 := Tryz.zeroValue128
  t212 := Tryz.underlying143
  a212 := Tryz.isAgg143
  z212 := Tryz.sizeOf143
  v212 := Tryz.zeroValue143
  t213 := Tryz.underlying145
  a213 := Tryz.isAgg145
  z213 := Tryz.sizeOf145
  t232 := Tryz.underlying160
  a232 := Tryz.isAgg160
  z232 := Tryz.sizeOf160
  v232 := Tryz.zeroValue160
  t233 := Tryz.underlying161
  a233 := Tryz.isAgg161
  z233 := Tryz.sizeOf161
  v233 := Tryz.zeroValue161
  g17 := by kernel_rfl
  g18 := by kernel_rfl
  g19 := by kernel_rfl
  i0 := by kernel_rfl
  i2 := by kernel_rfl
  i3 := by kernel_rfl
  i4 := by kernel_rfl
  i5 := by kernel_rfl
  i9 := by kernel_rfl
  i20 := by kernel_rfl
  i37 := by kernel_rfl
  i46 := by kernel_rfl
  i51 := by kernel_rfl
  i53 := by kernel_rfl
  i171 := by kernel_rfl
  i173 := by kernel_rfl
  i212 := by kernel_rfl
  i232 := by kernel_rfl
  i233 := by kernel_rfl
  m17 := by kernel_rfl
  m18 := by kernel_rfl
  m19 := by kernel_rfl }

def lays172_ren : Go.Shelf.Ren := ⟨fun | 172 => 48 | 244 => 69 | 245 => 70 | 247 => 83 | 279 => 84 | 280 => 85 | 281 => 86 | 282 => 87 | 287 => 101 | 316 => 102 | 171 => 37 | 205 => 103 | 321 => 112 | 322 => 113 | 243 => 54 | 246 => 72 | 283 => 88 | 284 => 89 | 285 => 90 | 286 => 91 | 129 => 105 | 317 => 104 | 318 => 106 | 319 => 107 | 320 => 108 | 337 => 114 | 338 => 115 | n => n, fun | 9 => 9 | 3 => 3 | 75 => 87 | 76 => 88 | 4 => 4 | 5 => 5 | 167 => 118 | 37 => 74 | 0 => 0 | 85 => 119 | 2 => 2 | 168 => 121 | 53 => 125 | 175 => 136 | 46 => 135 | 210 => 140 | 127 => 109 | 145 => 158 | 143 => 156 | 21 => 21 | 171 => 124 | 173 => 128 | 212 => 143 | 51 => 144 | 20 => 20 | 213 => 145 | 232 => 160 | 233 => 161 | 80 => 97 | n => n, fun | 15 => 2 | 16 => 3 | 17 => 4 | 18 => 7 | 19 => 8 | n => n⟩
theorem lays172 : Go.Proofs.LaysC.n172 Tryz.prog lays172_ren := {
  mixed := by kernel_rfl
  f129 := Tryz.func105.trans (congrArg some (by kernel_rfl))
  f171 := Tryz.func37.trans (congrArg some (by kernel_rfl))
  f172 := Tryz.func48.trans (congrArg some (by kernel_rfl))
  f205 := Tryz.func103.trans (congrArg some (by kernel_rfl))
  f243 := Tryz.func54.trans (congrArg some (by kernel_rfl))
  f244 := Tryz.func69.trans (congrArg some (by kernel_rfl))
  f245 := Tryz.func70.trans (congrArg some (by kernel_rfl))
  f246 := Tryz.func72.trans (congrArg some (by kernel_rfl))
  f247 := Tryz.func83.trans (congrArg some (by kernel_rfl))
  f279 := Tryz.func84.trans (congrArg some (by kernel_rfl))
  f280 := Tryz.func85.trans (congrArg some (by kernel_rfl))
  f281 := Tryz.func86.trans (congrArg some (by kernel_rfl))
  f282 := Tryz.func87.trans (congrArg some (by kernel_rfl))
  f283 := Tryz.func88.trans (congrArg some (by kernel_rfl))
  f284 := Tryz.func89.trans (congrArg some (by kernel_rfl))
  f285 := Tryz.func90.trans (congrArg some (by kernel_rfl))
  f286 := Tryz.func91.trans (congrArg some (by kernel_rfl))
  f287 := Tryz.func101.trans (congrArg some (by kernel_rfl))
  f316 := Tryz.func102.trans (congrArg some (by kernel_rfl))
  f317 := Tryz.func104.trans (congrArg some (by kernel_rfl))
  f318 := Tryz.func106.trans (congrArg some (by kernel_rfl))
  f319 := Tryz.func107.trans (congrArg some (by kernel_rfl))
  f320 := Tryz.func108.trans (congrArg some (by kernel_rfl))
  f321 := Tryz.func112.trans (congrArg some (by kernel_rfl))
  f322 := Tryz.func113.trans (congrArg some (by kernel_rfl))
  f337 := Tryz.func114.trans (congrArg some (by kernel_rfl))
  f338 := Tryz.func115.trans (congrArg some (by kernel_rfl))
  t0 := Tryz.underlying0
  a0 := Tryz.isAgg0
  z0 := Tryz.sizeOf0
  v0 := Tryz.zeroValue0
  t2 := Tryz.underlying2
  a2 := Tryz.isAgg2
  z2 := Tryz.sizeOf2
  v2 := Tryz.zeroValue2
  t3 := Tryz.underlying3
  a3 := Tryz.isAgg3
  z3 := Tryz.sizeOf3
  v3 := Tryz.zeroValue3
  t4 := Tryz.underlying4
  a4 := Tryz.isAgg4
  z4 := Tryz.sizeOf4
  v4 := Tryz.zeroValue4
  t5 := Tryz.underlying5
  a5 := Tryz.isAgg5
  z5 := Tryz.sizeOf5
  v5 := Tryz.zeroValue5
  t9 := Tryz.underlying9
  a9 := Tryz.isAgg9
  z9 := Tryz.sizeOf9
  v9 := Tryz.zeroValue9
  t20 := Tryz.underlying20
  a20 := Tryz.isAgg20
  z20 := Tryz.sizeOf20
  v20 := Tryz.zeroValue20
  t21 := Tryz.underlying21
  a21 := Tryz.isAgg21
  z21 := Tryz.sizeOf21
  v21 := Tryz.zeroValue21
  t37 := Tryz.underlying74
  a37 := Tryz.isAgg74
  z37 := Tryz.sizeOf74
  v37 := Tryz.zeroValue74
  t46 := Tryz.underlying135
  a46 := Tryz.isAgg135
  z46 := Tryz.sizeOf135
  v46 := Tryz.zeroValue135
  t51 := Tryz.underlying144
  a51 := Tryz.isAgg144
  z51 := Tryz.sizeOf144
  v51 := Tryz.zeroValue144
  t53 := Tryz.underlying125
  a53 := Tryz.isAgg125
  z53 := Tryz.sizeOf125
  v53 := Tryz.zeroValue125
  t75 := Tryz.underlying87
  a75 := Tryz.isAgg87
  z75 := Tryz.sizeOf87
  v75 := Tryz.zeroValue87
  t76 := Tryz.underlying88
  a76 := Tryz.isAgg88
  z76 := Tryz.sizeOf88
  v76 := Tryz.zeroValue88
  t85 := Tryz.underlying119
  a85 := Tryz.isAgg119
  z85 := Tryz.sizeOf119
  v85 := Tryz.zeroValue119
  t127 := Tryz.underlying109
  a127 := Tryz.isAgg109
  z127 := Tryz.sizeOf109
  v127 := Tryz.zeroValue109
  t143 := Tryz.underlying156
  a143 := Tryz.isAgg156
  z143 := Tryz.sizeOf156
  v143 := Tryz.zeroValue156
  t145 := Tryz.underlying158
  a145 := Tryz.isAgg158
  z145 := Tryz.sizeOf158
  v145 := Tryz.zeroValue158
  t167 := Tryz.underlying118
  a167 := Tryz.isAgg118
  z167 := Tryz.sizeOf118
  v167 := Tryz.zeroValue118
  t168 := Tryz.underlying121
  a168 := Tryz.isAgg121
  z168 := Tryz.sizeOf121
  v168 := Tryz.zeroValue121
  t171 := Tryz.underlying124
  a171 := Tryz.isAgg124
  z171 := Tryz.sizeOf124
  v171 := Tryz.zeroValue124
  t173 := Tryz.underlying128
  a173 := Tryz.isAgg128
  z173 := Tryz.sizeOf128
  v173 := Tryz.zeroValue128
  t175 := Tryz.underlying136
  a175 := Tryz.isAgg136
  z175 := Tryz.sizeOf136
  v175 := Tryz.zeroValue136
  t210 := Tryz.underlying140
  a210 := Tryz.isAgg140
  z210 := Tryz.sizeOf140
  v210 := Tryz.zeroValue140
  t212 := Tryz.underlying143
  a212 := Tryz.isAgg143
  z212 := Tryz.sizeOf143
  v212 := Tryz.zeroValue143
  t213 := Tryz.underlying145
  a213 := Tryz.isAgg145
  z213 := Tryz.sizeOf145
  t232 := Tryz.underlying160
  a232 := Tryz.isAgg160
  z232 := Tryz.sizeOf160
  v232 := Tryz.zeroValue160
  t233 := Tryz.underlying161
  a233 := Tryz.isAgg161
  z233 := Tryz.sizeOf161
  v233 := Tryz.zeroValue161
  g15 := by kernel_rfl
  g16 := by kernel_rfl
  g17 := by kernel_rfl
  g18 := by kernel_rfl
  g19 := by kernel_rfl
  t80 := Tryz.underlying97
  a80 := Tryz.isAgg97
  z80 := Tryz.sizeOf97
  v80 := Tryz.zeroValue97
  i0 := by kernel_rfl
  i2 := by kernel_rfl
  i3 := by kernel_rfl
  i4 := by kernel_rfl
  i5 := by kernel_rfl
  i9 := by kernel_rfl
  i20 := by kernel_rfl
  i21 := by kernel_rfl
  i37 := by kernel_rfl
  i46 := by kernel_rfl
  i51 := by kernel_rfl
  i53 := by kernel_rfl
  i75 := by kernel_rfl
  i76 := by kernel_rfl
  i80 := by kernel_rfl
  i85 := by kernel_rfl
  i127 := by kernel_rfl
  i143 := by kernel_rfl
  i145 := by kernel_rfl
  i167 := by kernel_rfl
  i168 := by kernel_rfl
  i171 := by kernel_rfl
  i173 := by kernel_rfl
  i175 := by kernel_rfl
  i210 := by kernel_rfl
  i212 := by kernel_rfl
  i232 := by kernel_rfl
  i233 := by kernel_rfl
  m15 := by kernel_rfl
  m16 := by kernel_rfl
  m17 := by kernel_rfl
  m18 := by kernel_rfl
  m19 := by kernel_rfl
  c0 := by kernel_rfl
  c2 := by kernel_rfl
  c3 := by kernel_rfl
  c4 := by kernel_rfl
  c5 := by kernel_rfl
  c9 := by kernel_rfl
  c20 := by kernel_rfl
  c21 := by kernel_rfl
  c37 := by kernel_rfl
  c46 := by kernel_rfl
  c51 := by kernel_rfl
  c53 := by kernel_rfl
  c75 := by kernel_rfl
  c76 := by kernel_rfl
  c80 := by kernel_rfl
  c85 := by kernel_rfl
  c127 := by kernel_rfl
  c143 := by kernel_rfl
  c145 := by kernel_rfl
  c167 := by kernel_rfl
  c168 := by kernel_rfl
  c171 := by kernel_rfl
  c173 := by kernel_rfl
  c175 := by kernel_rfl
  c210 := by kernel_rfl
  c212 := by kernel_rfl
  c213 := by kernel_rfl
  c232 := by kernel_rfl
  c233 := by kernel_rfl }

def lays156_ren : Go.Shelf.Ren := ⟨fun | 156 => 38 | 165 => 55 | 166 => 56 | 169 => 57 | 240 => 73 | 241 => 74 | 276 => 92 | 277 => 93 | n => n, fun | 31 => 58 | 9 => 9 | 3 => 3 | 4 => 4 | 0 => 0 | 20 => 20 | 72 => 95 | 76 => 88 | 70 => 93 | 37 => 74 | 75 => 87 | 127 => 109 | 164 => 130 | 5 => 5 | 80 => 97 | n => n, fun | n => n⟩
theorem lays156 : Go.Proofs.Lays.n156 Tryz.prog lays156_ren := {
  mixed := by kernel_rfl
  f156 := Tryz.func38.trans (congrArg some (by kernel_rfl))
  f165 := Tryz.func55.trans (congrArg some (by kernel_rfl))
  f166 := Tryz.func56.trans (congrArg some (by kernel_rfl))
  f169 := Tryz.func57.trans (congrArg some (by kernel_rfl))
  f240 := Tryz.func73.trans (congrArg some (by kernel_rfl))
  f241 := Tryz.func74.trans (congrArg some (by kernel_rfl))
  f276 := Tryz.func92.trans (congrArg some (by kernel_rfl))
  f277 := Tryz.func93.trans (congrArg some (by kernel_rfl))
  t0 := Tryz.underlying0
  a0 := Tryz.isAgg0
  z0 := Tryz.sizeOf0
  v0 := Tryz.zeroValue0
  t3 := Tryz.underlying3
  a3 := Tryz.isAgg3
  z3 := Tryz.sizeOf3
  v3 := Tryz.zeroValue3
  t4 := Tryz.underlying4
  a4 := Tryz.isAgg4
  z4 := Tryz.sizeOf4
  v4 := Tryz.zeroValue4
  t9 := Tryz.underlying9
  a9 := Tryz.isAgg9
  z9 := Tryz.sizeOf9
  v9 := Tryz.zeroValue9
  t20 := Tryz.underlying20
  a20 := Tryz.isAgg20
  z20 := Tryz.sizeOf20
  v20 := Tryz.zeroValue20
  t31 := Tryz.underlying58
  a31 := Tryz.isAgg58
  z31 := Tryz.sizeOf58
  v31 := Tryz.zeroValue58
  t37 := Tryz.underlying74
  a37 := Tryz.isAgg74
  z37 := Tryz.sizeOf74
  v37 := Tryz.zeroValue74
  t70 := Tryz.underlying93
  a70 := Tryz.isAgg93
  z70 := Tryz.sizeOf93
  v70 := Tryz.zeroValue93
  t72 := Tryz.underlying95
  a72 := Tryz.isAgg95
  z72 := Tryz.sizeOf95
  v72 := Tryz.zeroValue95
  t75 := Tryz.underlying87
  a75 := Tryz.isAgg87
  z75 := Tryz.sizeOf87
  v75 := Tryz.zeroValue87
  t76 := Tryz.underlying88
  a76 := Tryz.isAgg88
  z76 := Tryz.sizeOf88
  v76 := Tryz.zeroValue88
  t127 := Tryz.underlying109
  a127 := Tryz.isAgg109
  z127 := Tryz.sizeOf109
  v127 := Tryz.zeroValue109
  t164 := Tryz.underlying130
  a164 := Tryz.isAgg130
  z164 := Tryz.sizeOf130
  v164 := Tryz.zeroValue130 }

def lays146_ren : Go.Shelf.Ren := ⟨fun | 146 => 25 | 221 => 47 | 268 => 66 | 138 => 67 | 143 => 68 | 195 => 79 | 197 => 80 | 218 => 81 | 219 => 82 | 260 => 96 | 217 => 97 | 225 => 98 | 224 => 99 | 267 => 100 | 266 => 110 | 314 => 111 | n => n, fun | 9 => 9 | 31 => 58 | 3 => 3 | 4 => 4 | 0 => 0 | 105 => 115 | 21 => 21 | 5 => 5 | 46 => 135 | 119 => 149 | 139 => 152 | 138 => 151 | 146 => 153 | 51 => 144 | n => n, fun | 1 => 1 | 3 => 5 | 4 => 6 | n => n⟩
theorem lays146 : Go.Proofs.Lays.n146 Tryz.prog lays146_ren := {
  mixed := by kernel_rfl
  f138 := Tryz.func67.trans (congrArg some (by kernel_rfl))
  f143 := Tryz.func68.trans (congrArg some (by kernel_rfl))
  f146 := Tryz.func25.trans (congrArg some (by kernel_rfl))
  f195 := Tryz.func79.trans (congrArg some (by kernel_rfl))
  f197 := Tryz.func80.trans (congrArg some (by kernel_rfl))
  f217 := Tryz.func97.trans (congrArg some (by kernel_rfl))
  f218 := Tryz.func81.trans (congrArg some (by kernel_rfl))
  f219 := Tryz.func82.trans (congrArg some (by kernel_rfl))
  f221 := Tryz.func47.trans (congrArg some (by kernel_rfl))
  f224 := Tryz.func99.trans (congrArg some (by kernel_rfl))
  f225 := Tryz.func98.trans (congrArg some (by kernel_rfl))
  f260 := Tryz.func96.trans (congrArg some (by kernel_rfl))
  f266 := Tryz.func110.trans (congrArg some (by kernel_rfl))
  f267 := Tryz.func100.trans (congrArg some (by kernel_rfl))
  f268 := Tryz.func66.trans (congrArg some (by kernel_rfl))
  f314 := Tryz.func111.trans (congrArg some (by kernel_rfl))
  t0 := Tryz.underlying0
  a0 := Tryz.isAgg0
  z0 := Tryz.sizeOf0
  v0 := Tryz.zeroValue0
  t3 := Tryz.underlying3
  a3 := Tryz.isAgg3
  z3 := Tryz.sizeOf3
  v3 := Tryz.zeroValue3
  t4 := Tryz.underlying4
  a4 := Tryz.isAgg4
  z4 := Tryz.sizeOf4
  v4 := Tryz.zeroValue4
  t5 := Tryz.underlying5
  a5 := Tryz.isAgg5
  z5 := Tryz.sizeOf5
  v5 := Tryz.zeroValue5
  t9 := Tryz.underlying9
  a9 := Tryz.isAgg9
  z9 := Tryz.sizeOf9
  v9 := Tryz.zeroValue9
  t21 := Tryz.underlying21
  a21 := Tryz.isAgg21
  z21 := Tryz.sizeOf21
  v21 := Tryz.zeroValue21
  t31 := Tryz.underlying58
  a31 := Tryz.isAgg58
  z31 := Tryz.sizeOf58
  v31 := Tryz.zeroValue58
  t46 := Tryz.underlying135
  a46 := Tryz.isAgg135
  z46 := Tryz.sizeOf135
  v46 := Tryz.zeroValue135
  t51 := Tryz.underlying144
  a51 := Tryz.isAgg144
  z51 := Tryz.sizeOf144
  v51 := Tryz.zeroValue144
  t105 := Tryz.underlying115
  a105 := Tryz.isAgg115
  z105 := Tryz.sizeOf115
  v105 := Tryz.zeroValue115
  t119 := Tryz.underlying149
  a119 := Tryz.isAgg149
  z119 := Tryz.sizeOf149
  t138 := Tryz.underlying151
  a138 := Tryz.isAgg151
  z138 := Tryz.sizeOf151
  v138 := Tryz.zeroValue151
  t139 := Tryz.underlying152
  a139 := Tryz.isAgg152
  z139 := Tryz.sizeOf152
  v139 := Tryz.zeroValue152
  t146 := Tryz.underlying153
  a146 := Tryz.isAgg153
  z146 := Tryz.sizeOf153
  v146 := Tryz.zeroValue153
  g1 := by kernel_rfl
  g3 := by kernel_rfl
  g4 := by kernel_rfl }

theorem extra156 : Builder.Extra Tryz.prog lays156_ren := {
  sizeBuilder := by kernel_rfl
  liesBuilder := by kernel_rfl
  t5 := Tryz.underlying5
  a5 := Tryz.isAgg5
  z5 := Tryz.sizeOf5
  v5 := Tryz.zeroValue5
  infoByte := by kernel_rfl
  cellsByte := by kernel_rfl
  sizeByte := by kernel_rfl
  neB5 := by decide }
theorem fnItoa : FnOk Tryz.prog 37 := ⟨_, Tryz.func37, by kernel_rfl, by kernel_rfl⟩
theorem fnJoin : FnOk Tryz.prog 38 := ⟨_, Tryz.func38, by kernel_rfl, by kernel_rfl⟩
theorem fnSplit : FnOk Tryz.prog 25 := ⟨_, Tryz.func25, by kernel_rfl, by kernel_rfl⟩
theorem fnAtoi : FnOk Tryz.prog 48 := ⟨_, Tryz.func48, by kernel_rfl, by kernel_rfl⟩
theorem g1 : assoc none (F.G.map fun p => (p.1, some p.2)) 1 = some [.anyi .i64] := rfl
theorem g2 : assoc none (F.G.map fun p => (p.1, some p.2)) 2 = some [.ifc false] := rfl
theorem g3 : assoc none (F.G.map fun p => (p.1, some p.2)) 3 = some [.ifc false] := rfl
theorem g4 : assoc none (F.G.map fun p => (p.1, some p.2)) 4 = some (Lib.pow10Tab.map fun z => .int .u64 z) := rfl
theorem gPow : Tryz.prog.globalNamed "internal/strconv.uint64pow10" = some 4 := by kernel_rfl
theorem primOk (f : FuncId) (p : List IV → Option (IV × List IV)) (args : List IV) (r : IV) (outs : List IV) (h : F.prim f = some p) (h2 : p args = some (r, outs)) : FnOk Tryz.prog f ∧ CallSpec Tryz.prog F.G f args r outs := by
  have h3 : (match (generalizing := false) f with | 37 => some itoaP | 38 => some joinP | 25 => some splitP | 48 => some atoiP | _ => none) = some p := h
  split at h3
  · simp only [Option.some.injEq] at h3
    subst h3
    exact ⟨fnItoa, itoa_spec lays171 gPow g4 h2⟩
  · simp only [Option.some.injEq] at h3
    subst h3
    exact ⟨fnJoin, join_spec lays156 extra156 h2⟩
  · simp only [Option.some.injEq] at h3
    subst h3
    exact ⟨fnSplit, split_spec lays146 (by kernel_rfl) g1 h2⟩
  · simp only [Option.some.injEq] at h3
    subst h3
    exact ⟨fnAtoi, atoi_spec lays172 g2 g3 h2⟩
  · cases h3
end Go.Proofs.YtjoibdmiolcodaaGreatDoor.Ab
