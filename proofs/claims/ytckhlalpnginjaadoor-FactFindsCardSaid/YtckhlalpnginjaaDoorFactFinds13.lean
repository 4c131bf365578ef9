/- What the rows of this seat share: the variable that is laid, the world in which it is so. No condition. -/
import Derived.Below
import Derived.ChangeOld
import Derived.LaidMore
import Derived.Lib.SmallJoins
import Derived.OpenShut
import Derived.ProofKit
import Derived.SevenTiedAt
import Derived.ShutString
import Derived.SizedLaws
import Derived.Stop.Joined
import Derived.Test.YtckhlalpnginjaaDoorCards
import Derived.Test.YtckhlalpnginjaaDoorRows
import Derived.Test.YtckhlalpnginjaaDoorTie
import Derived.WalkKit
import Derived.Test.YtckhlalpnginjaaDoorFactFinds0
import Derived.Test.YtckhlalpnginjaaDoorFactFinds1
import Derived.Test.YtckhlalpnginjaaDoorFactFinds2
import Derived.Test.YtckhlalpnginjaaDoorFactFinds3
import Derived.Test.YtckhlalpnginjaaDoorFactFinds4
import Derived.Test.YtckhlalpnginjaaDoorFactFinds5
import Derived.Test.YtckhlalpnginjaaDoorFactFinds6
import Derived.Test.YtckhlalpnginjaaDoorFactFinds7
import Derived.Test.YtckhlalpnginjaaDoorFactFinds8
import Derived.Test.YtckhlalpnginjaaDoorFactFinds9
import Derived.Test.YtckhlalpnginjaaDoorFactFinds10
import Derived.Test.YtckhlalpnginjaaDoorFactFinds11
import Derived.Test.YtckhlalpnginjaaDoorFactFinds12
namespace Go.Proofs.YtckhlalpnginjaaDoor.Ab
open Go Go.Ab Go.Qu Go.Proofs Go.ChangeShapes Go.WideShapes Go.ChangeAt Go.RowKit Go.Joins
set_option linter.unusedVariables false
set_option maxRecDepth 100000
theorem own : ownKnob Tryd.prog.godebug = none := by kernel_rfl
theorem laidOut : laidOutB Tryd.prog = true := by kernel_rfl
abbrev laid1 : List (String × DataW Unit) := [("quaere/sign.equals", Rows.laid_quaere_sign_equals)]
theorem gEq : Tryd.prog.globalNamed "quaere/sign.equals" = some 0 := by kernel_rfl
theorem tEq : (Tryd.prog.globals[0]?).map (·.type) = some 68 := by kernel_rfl
theorem door_met (os : Os) (args : Array Value) : laidMetH Tryd.prog laid1 ((World.doorLaid Tryd.prog 400 os).forCall (fun _ _ => 0) ⟨#[], args, []⟩).memory :=
  laidMetH_of_parts3 (fuel := 8) (laidMet_of_run' 8 (by kernel_rfl) (by kernel_rfl)) (by kernel_rfl) (by kernel_rfl)
theorem globs {W : World} (h : laidMetH Tryd.prog laid1 W) : GlobOk (Hw W) F.G := by
  rw [MakeChecks.laidMetH_plain _ _ _ (by kernel_rfl)] at h
  obtain ⟨ps, ⟨g0, t0, cs0, f0, p0, q0, hg0, ht0, hv0, hd0, _, _⟩, _, _⟩ := h
  obtain rfl := Option.some.inj (gEq.symm.trans hg0)
  obtain rfl := Option.some.inj (tEq.symm.trans ht0)
  obtain ⟨xs, n, _, hx, hlen, hxl, hf⟩ := DataW.trod_struct Tryd.underlying68 hd0
  have c1 : Tryd.prog.cellsOf 68 = 4 := by kernel_rfl
  have cs : Tryd.prog.cellsOf 9 = 1 := by kernel_rfl
  have ci : Tryd.prog.cellsOf 3 = 1 := by kernel_rfl
  rw [c1] at hlen
  have hx1 : xs.map (·.1) = [.lit (.string [61]), .lit (.int .i64 0), .lit (.int .i64 2), .lit (.int .i64 1)] := by
    simp only [Prod.mk.injEq] at hx
    have h9 := hx.1
    unfold Rows.laid_quaere_sign_equals at h9
    simp only [DataW.agg.injEq] at h9
    exact h9.symm
  have hcs : ∃ a b c d, cs0.toList = [a, b, c, d] := by
    match h : cs0.toList, hlen with
    | [a, b, c, d], _ => exact ⟨a, b, c, d, rfl⟩
  obtain ⟨a, b, c, d, hcs⟩ := hcs
  have hxs : ∃ x0 x1 x2 x3, xs = [x0, x1, x2, x3] := by
    match xs, hxl with
    | [x0, x1, x2, x3], _ => exact ⟨x0, x1, x2, x3, rfl⟩
  obtain ⟨x0, x1, x2, x3, rfl⟩ := hxs
  simp only [List.map_cons, List.map_nil, List.cons.injEq, and_true] at hx1
  obtain ⟨e0, e1, e2, e3⟩ := hx1
  have h0 : DataW.trod (fun _ => ()) Tryd.prog W 0 (fun _ => true) false n 9 ((cs0.toList.drop 0).take (Tryd.prog.cellsOf 9)) = some x0 := hf 0 _ rfl
  have h1 : DataW.trod (fun _ => ()) Tryd.prog W 0 (fun _ => true) false n 3 ((cs0.toList.drop 1).take (Tryd.prog.cellsOf 3)) = some x1 := hf 1 _ rfl
  have h2 : DataW.trod (fun _ => ()) Tryd.prog W 0 (fun _ => true) false n 3 ((cs0.toList.drop 2).take (Tryd.prog.cellsOf 3)) = some x2 := hf 2 _ rfl
  have h3 : DataW.trod (fun _ => ()) Tryd.prog W 0 (fun _ => true) false n 3 ((cs0.toList.drop 3).take (Tryd.prog.cellsOf 3)) = some x3 := hf 3 _ rfl
  rw [hcs, cs] at h0
  rw [hcs, ci] at h1 h2 h3
  obtain ⟨s, ha, hs, _⟩ := DataW.trod_string Tryd.underlying9 h0
  obtain ⟨n1, hb, hn1, _⟩ := DataW.trod_int Tryd.underlying3 h1
  obtain ⟨n2, hc, hn2, _⟩ := DataW.trod_int Tryd.underlying3 h2
  obtain ⟨n3, hd, hn3, _⟩ := DataW.trod_int Tryd.underlying3 h3
  simp at ha hb hc hd
  rw [hs] at e0; rw [hn1] at e1; rw [hn2] at e2; rw [hn3] at e3
  simp at e0 e1 e2 e3
  subst ha hb hc hd e1 e2 e3
  have hse : s = "=".toUTF8 := by
    have h5 : "=".toUTF8.data.toList = [61] := by decide +kernel
    have h6 : s.data = "=".toUTF8.data := Array.toList_inj.1 (e0.trans h5.symm)
    exact (show ∀ (x y : ByteArray), x.data = y.data → x = y by intro ⟨_⟩ ⟨_⟩ h; exact congrArg _ h) _ _ h6
  subst hse
  have hcell : ∀ (j : Nat) u, [Value.string "=".toUTF8, .int .i64 0, .int .i64 2, .int .i64 1][j]? = some u → W.cell? ⟨0, j, none⟩ = some u := fun j u hj => by
    have h7 := World.var?_cell hg0 hv0 j
    have h8 : cs0[j]? = some u := by rw [← Array.getElem?_toList, hcs]; exact hj
    rw [h8] at h7
    simpa using h7
  intro g cs hg
  simp only [F, List.map_cons, List.map_nil, assoc] at hg
  split at hg
  · rename_i hg0
    subst hg0
    simp only [Option.some.injEq] at hg
    subst hg
    refine ⟨[.string "=".toUTF8, .int .i64 0, .int .i64 2, .int .i64 1], ?_, fun j u hj => ?_, by simp [D.isAgg]⟩
    · unfold D.RepL; refine ⟨[_], _, rfl, by unfold D.Rep; rfl, ?_⟩
      unfold D.RepL; refine ⟨[_], _, rfl, by unfold D.Rep; rfl, ?_⟩
      unfold D.RepL; refine ⟨[_], _, rfl, by unfold D.Rep; rfl, ?_⟩
      unfold D.RepL; refine ⟨[_], [], rfl, by unfold D.Rep; rfl, ?_⟩
      unfold D.RepL; rfl
    · refine Hw.cell ?_
      have h9 := hcell j u hj
      unfold Addr.add
      split
      · rename_i hj0; subst hj0; exact h9
      · simpa using h9
  · simp at hg
theorem fxOk : FxOk Tryd.prog F where
  orders := by kernel_rfl
  tab := tab_ok
  code := code_ok.get
  prim := fun f p args r outs h => by cases h
/-! ### Arguments -/
theorem good_sym {n : Nat} {x : D} (h : Go.Ab.Good Tryd.prog (n + 2) 68 x) : ∃ s : Sym, x = s.d := by
  unfold Go.Ab.Good at h
  rw [Tryd.underlying68] at h
  obtain ⟨ys, rfl, y0, r0, rfl, h0, y1, r1, rfl, h1, y2, r2, rfl, h2, y3, r3, rfl, h3, rfl⟩ := h
  unfold Go.Ab.Good at h0 h1 h2 h3
  simp only [Tryd.underlying9, Tryd.underlying3] at h0 h1 h2 h3
  obtain ⟨s, rfl, _⟩ := h0
  obtain ⟨a, rfl, _⟩ := h1
  obtain ⟨b, rfl, _⟩ := h2
  obtain ⟨c, rfl, _⟩ := h3
  exact ⟨⟨s, a, b, c⟩, rfl⟩
theorem good_sig {n : Nat} {x : D} (h : Go.Ab.Good Tryd.prog (n + 3) 22 x) : ∃ z g, x = .sl 4 z (syms g) [] := by
  unfold Go.Ab.Good at h
  rw [Tryd.underlying22] at h
  obtain ⟨z, xs, rfl, _, h2, _⟩ := h
  have hc : Tryd.prog.cellsOf 68 = 4 := by kernel_rfl
  rw [hc]
  obtain ⟨g, rfl, _⟩ := all_map (f := Sym.d) (Q := fun _ => True) (fun y hy => by obtain ⟨s, hs⟩ := good_sym (h2 y hy); exact ⟨s, hs, trivial⟩)
  exact ⟨z, g, rfl⟩
theorem good_int {n : Nat} {x : D} (h : Go.Ab.Good Tryd.prog (n + 1) 3 x) : ∃ a : Int, x = .int .i64 a ∧ -9223372036854775808 ≤ a ∧ a ≤ 9223372036854775807 := by
  unfold Go.Ab.Good at h
  rw [Tryd.underlying3] at h
  obtain ⟨a, rfl, hw⟩ := h
  refine ⟨a, rfl, ?_⟩
  simp [Lit.wf, IntKind.min, IntKind.max, IntKind.bits, IntKind.signed] at hw
  omega
theorem good_ints {n : Nat} {x : D} (h : Go.Ab.Good Tryd.prog (n + 2) 23 x) : ∃ z l, x = .sl 1 z (ints l) [] ∧ Len l := by
  unfold Go.Ab.Good at h
  rw [Tryd.underlying23] at h
  obtain ⟨z, xs, rfl, h1, h2, _⟩ := h
  have hc : Tryd.prog.cellsOf 3 = 1 := by kernel_rfl
  have hb : Tryd.prog.bytesOf 3 = 8 := by kernel_rfl
  rw [hb] at h1
  rw [hc]
  obtain ⟨l, rfl, _⟩ := all_map (f := D.int .i64) (Q := fun _ => True) (fun y hy => by obtain ⟨a, ha, _⟩ := good_int (h2 y hy); exact ⟨a, ha, trivial⟩)
  rw [List.length_map] at h1
  exact ⟨z, l, rfl, by unfold Len; simpa [reachBytes] using h1⟩
theorem good_rows {n : Nat} {x : D} (h : Go.Ab.Good Tryd.prog (n + 3) 24 x) : ∃ z rs, x = .sl 1 z (rws rs) [] ∧ rs.length * 24 ≤ 140737488351232 ∧ ∀ r ∈ rs, Len r.l := by
  unfold Go.Ab.Good at h
  rw [Tryd.underlying24] at h
  obtain ⟨z, xs, rfl, h1, h2, _⟩ := h
  have hc : Tryd.prog.cellsOf 23 = 1 := by kernel_rfl
  have hb : Tryd.prog.bytesOf 23 = 24 := by kernel_rfl
  rw [hb] at h1
  rw [hc]
  obtain ⟨rs, rfl, h4⟩ := all_map (f := Row.d) (Q := fun r => Len r.l) (fun y hy => by obtain ⟨z, l, h, hl⟩ := good_ints (h2 y hy); exact ⟨⟨z, l, []⟩, h, hl⟩)
  rw [List.length_map] at h1
  exact ⟨z, rs, rfl, by simpa [reachBytes] using h1, h4⟩
end Go.Proofs.YtckhlalpnginjaaDoor.Ab

/- Tables of facts: that the program and the document tell the same. Plain lists; no condition. -/
set_option linter.unusedVariables false
set_option linter.unusedSimpArgs false
namespace Go.Qu
open Go Go.Ab

theorem probe_step (h j : Nat) : (probe h j + 1) % 32 = probe h (j + 1) := by unfold probe; omega
theorem probe_inj {h m m' : Nat} (hm : m < 32) (hm' : m' < 32) (he : probe h m = probe h m') : m = m' := by unfold probe at he; omega
theorem probe_onto (h : Nat) {i : Nat} (hi : i < 32) : ∃ m, m < 32 ∧ probe h m = i := ⟨(i + 32 - h % 32) % 32, Nat.mod_lt _ (by omega), by unfold probe; omega⟩
def cnt (l : List Int) : Nat := l.countP fun x => decide (0 ≤ x)
theorem cnt_mid (s t : List Int) {x : Int} (hx : 0 ≤ x) : cnt (s ++ x :: t) = cnt (s ++ t) + 1 := by
  simp [cnt, List.countP_append, List.countP_cons, hx]; omega
def Inj (l : List Int) : Prop := ∀ x, 0 ≤ x → l.count x ≤ 1
theorem covers_le : ∀ (n : Nat) (l : List Int), (∀ k : Nat, k < n → (k : Int) ∈ l) → n ≤ cnt l
  | 0, l, h => Nat.zero_le _
  | n + 1, l, h => by
    obtain ⟨s, t, rfl⟩ := List.append_of_mem (h n (Nat.lt_succ_self n))
    have := covers_le n (s ++ t) (fun k hk => by
      have h1 := h k (by omega)
      simp only [List.mem_append, List.mem_cons] at h1 ⊢
      rcases h1 with h1 | h1 | h1
      · exact .inl h1
      · omega
      · exact .inr h1)
    rw [cnt_mid s t (by omega)]
    omega
theorem inj_of {n : Nat} {l : List Int} (hc : cnt l = n) (hk : ∀ k : Nat, k < n → (k : Int) ∈ l) : Inj l := by
  intro x hx
  by_cases hm : x ∈ l
  · obtain ⟨s, t, rfl⟩ := List.append_of_mem hm
    by_cases h2 : x ∈ s ++ t
    · have := covers_le n (s ++ t) (fun k hk' => by
        have h1 := hk k hk'
        simp only [List.mem_append, List.mem_cons] at h1 h2 ⊢
        rcases h1 with h1 | h1 | h1
        · exact .inl h1
        · rw [h1]; exact h2
        · exact .inr h1)
      rw [cnt_mid s t hx] at hc
      omega
    · have h3 := List.count_eq_zero_of_not_mem h2
      simp only [List.count_append, List.count_cons_self] at h3 ⊢
      omega
  · rw [List.count_eq_zero_of_not_mem hm]; omega
theorem cnt_le : ∀ (n : Nat) (l : List Int), (∀ x ∈ l, x < n) → Inj l → cnt l ≤ n
  | 0, l, h, hi => by
    have : cnt l = 0 := by
      unfold cnt
      rw [List.countP_eq_zero]
      intro x hx
      have := h x hx
      simp; omega
    omega
  | n + 1, l, h, hi => by
    by_cases hm : (n : Int) ∈ l
    · obtain ⟨s, t, rfl⟩ := List.append_of_mem hm
      have h1 := hi n (by omega)
      simp only [List.count_append, List.count_cons_self] at h1
      have := cnt_le n (s ++ t) (fun x hx => by
        have h2 := h x (by simp only [List.mem_append, List.mem_cons] at hx ⊢; rcases hx with hx | hx; exact .inl hx; exact .inr (.inr hx))
        have h3 : x ≠ n := fun e => by
          subst e
          have := List.count_pos_iff.2 hx
          rw [List.count_append] at this
          omega
        omega) (fun x hx => by
        have h2 := hi x hx
        rw [List.count_append, List.count_cons] at h2
        rw [List.count_append]
        omega)
      rw [cnt_mid s t (by omega)]
      omega
    · have := cnt_le n l (fun x hx => by
        have h2 := h x hx
        have h3 : x ≠ n := fun e => hm (e ▸ hx)
        omega) hi
      omega
theorem covers_of {n : Nat} {l : List Int} (hr : ∀ x ∈ l, x < n) (hi : Inj l) (hc : cnt l = n) (k : Nat) (hk : k < n) : (k : Int) ∈ l := by
  by_cases hm : (k : Int) ∈ l
  · exact hm
  · have := cnt_le n ((k : Int) :: l) (fun x hx => by
      rcases List.mem_cons.1 hx with rfl | hx
      · omega
      · exact hr x hx) (fun x hx => by
      rw [List.count_cons]
      by_cases he : (k : Int) = x
      · subst he
        rw [List.count_eq_zero_of_not_mem hm]; simp
      · have := hi x hx
        simp [he]; omega)
    have h2 := cnt_mid [] l (x := (k : Int)) (by omega)
    simp only [List.nil_append] at h2
    omega
theorem mem_gi {l : List Int} {x : Int} (h : x ∈ l) : ∃ i, i < l.length ∧ gi l i = x := by
  obtain ⟨i, hi, he⟩ := List.getElem_of_mem h
  exact ⟨i, hi, by simp [gi, hi, he]⟩
theorem inj_gi {l : List Int} (hi : Inj l) {i j : Nat} (h1 : i < l.length) (h2 : j < l.length) (hx : 0 ≤ gi l i) (he : gi l i = gi l j) : i = j := by
  have key : ∀ i j, i < j → j < l.length → 0 ≤ gi l i → gi l i = gi l j → False := fun i j hij hj hx he => by
    have h3 : l = l.take i ++ gi l i :: l.drop (i + 1) := by rw [← gi_drop (by omega), List.take_append_drop]
    have h4 : gi l j ∈ l.drop (i + 1) := by
      rw [List.mem_drop_iff_getElem]
      refine ⟨j - (i + 1), by omega, ?_⟩
      simp only [show i + 1 + (j - (i + 1)) = j by omega]
      simp [gi, hj]
    have h5 := hi _ hx
    have h6 := List.count_pos_iff.2 h4
    rw [← he] at h6
    have h7 : l.count (gi l i) = (l.take i).count (gi l i) + ((l.drop (i + 1)).count (gi l i) + 1) := by
      conv => lhs; arg 2; rw [h3]
      rw [List.count_append, List.count_cons_self]
    omega
  rcases Nat.lt_trichotomy i j with h | h | h
  · exact (key i j h h2 hx he).elim
  · exact h
  · exact (key j i h h1 (by rw [← he]; exact hx) he.symm).elim
theorem gi_inj {l : List Int} (h : ∀ i j, i < l.length → j < l.length → 0 ≤ gi l i → gi l i = gi l j → i = j) : Inj l := by
  intro x hx
  by_cases hm : x ∈ l
  · obtain ⟨i, hi, he⟩ := mem_gi hm
    have h3 : l = l.take i ++ gi l i :: l.drop (i + 1) := by rw [← gi_drop hi, List.take_append_drop]
    have h4 : x ∉ l.take i := fun hk => by
      obtain ⟨j, hj, hje⟩ := List.getElem_of_mem hk
      simp at hj
      have h5 : gi l j = x := by rw [← hje]; simp [gi, show j < l.length by omega]
      have := h j i (by omega) hi (by omega) (by omega)
      omega
    have h5 : x ∉ l.drop (i + 1) := fun hk => by
      obtain ⟨j, hj, hje⟩ := List.getElem_of_mem hk
      simp at hj
      have h5 : gi l (i + 1 + j) = x := by rw [← hje]; simp [gi, show i + 1 + j < l.length by omega]
      have := h (i + 1 + j) i (by omega) hi (by omega) (by omega)
      omega
    rw [h3, he, List.count_append, List.count_cons_self, List.count_eq_zero_of_not_mem h4, List.count_eq_zero_of_not_mem h5]
    omega
  · rw [List.count_eq_zero_of_not_mem hm]; omega
theorem slotsF_iff {n : Nat} : ∀ (l : List Int) (seen : List Bool) (k : Nat), seen.length = n → (slotsF n l seen k = true ↔ (∀ x ∈ l, x = -1 ∨ x = -2 ∨ (0 ≤ x ∧ x < n ∧ seen[x.toNat]? ≠ some true)) ∧ Inj l ∧ k + cnt l = n)
  | [], seen, k, hs => by simp [slotsF, Inj, cnt]
  | y :: l, seen, k, hs => by
    unfold slotsF
    have hcons : ∀ x : Int, (y :: l).count x = l.count x + if y = x then 1 else 0 := fun x => by rw [List.count_cons]; simp
    by_cases h1 : y = -1 ∨ y = -2
    · rw [if_pos h1, slotsF_iff l seen k hs]
      have hc : cnt (y :: l) = cnt l := by unfold cnt; rw [List.countP_cons]; rcases h1 with rfl | rfl <;> simp
      rw [hc]
      constructor
      · rintro ⟨h2, h3, h4⟩
        refine ⟨fun x hx => ?_, fun x hx => ?_, h4⟩
        · rcases List.mem_cons.1 hx with rfl | hx
          · rcases h1 with h1 | h1
            · exact .inl h1
            · exact .inr (.inl h1)
          · exact h2 x hx
        · rw [hcons, if_neg (by omega)]; exact h3 x hx
      · rintro ⟨h2, h3, h4⟩
        exact ⟨fun x hx => h2 x (List.mem_cons_of_mem _ hx), fun x hx => by have := h3 x hx; rw [hcons] at this; omega, h4⟩
    · rw [if_neg h1]
      by_cases h2 : y < 0 ∨ (n : Int) ≤ y ∨ seen[y.toNat]? = some true
      · rw [if_pos h2]
        constructor
        · intro h; cases h
        · rintro ⟨h3, _, _⟩
          rcases h3 y (by simp) with h4 | h4 | ⟨h4, h5, h6⟩
          · exact (h1 (.inl h4)).elim
          · exact (h1 (.inr h4)).elim
          · rcases h2 with h2 | h2 | h2
            · omega
            · omega
            · exact (h6 h2).elim
      · rw [if_neg h2, slotsF_iff l (seen.set y.toNat true) (k + 1) (by simp [hs])]
        have hy0 : 0 ≤ y := by omega
        have hyn : y < n := by omega
        have hseen : seen[y.toNat]? ≠ some true := fun h => h2 (.inr (.inr h))
        have hc : cnt (y :: l) = cnt l + 1 := by have := cnt_mid [] l hy0; simpa using this
        rw [hc]
        constructor
        · rintro ⟨h3, h4, h5⟩
          have hnot : y ∉ l := fun hm => by
            rcases h3 y hm with h6 | h6 | ⟨_, _, h6⟩
            · omega
            · omega
            · apply h6
              rw [List.getElem?_set_self (by omega)]
          refine ⟨fun x hx => ?_, fun x hx => ?_, by omega⟩
          · rcases List.mem_cons.1 hx with rfl | hx
            · exact .inr (.inr ⟨hy0, hyn, hseen⟩)
            · rcases h3 x hx with h6 | h6 | ⟨h6, h7, h8⟩
              · exact .inl h6
              · exact .inr (.inl h6)
              · refine .inr (.inr ⟨h6, h7, ?_⟩)
                have hne : y ≠ x := fun e => hnot (e ▸ hx)
                rwa [List.getElem?_set_ne (by omega)] at h8
          · rw [hcons]
            split
            · rename_i e; subst e
              rw [List.count_eq_zero_of_not_mem hnot]; omega
            · have := h4 x hx; omega
        · rintro ⟨h3, h4, h5⟩
          have hnot : y ∉ l := fun hm => by
            have h6 := h4 y hy0
            have h7 := List.count_pos_iff.2 hm
            rw [hcons, if_pos rfl] at h6
            omega
          refine ⟨fun x hx => ?_, fun x hx => ?_, by omega⟩
          · rcases h3 x (List.mem_cons_of_mem _ hx) with h6 | h6 | ⟨h6, h7, h8⟩
            · exact .inl h6
            · exact .inr (.inl h6)
            · refine .inr (.inr ⟨h6, h7, ?_⟩)
              have hne : y ≠ x := fun e => hnot (e ▸ hx)
              rwa [List.getElem?_set_ne (by omega)]
          · have := h4 x hx; rw [hcons] at this; omega
theorem taken_cnt : ∀ (l : List Int) (k : Nat), takenF l k = k + cnt l
  | [], k => by simp [takenF, cnt]
  | x :: l, k => by
    unfold takenF
    rw [taken_cnt l]
    by_cases h : 0 ≤ x
    · have := cnt_mid [] l h
      simp only [List.nil_append] at this
      rw [if_pos h, this]; omega
    · rw [if_neg h]
      unfold cnt
      rw [List.countP_cons]; simp [h]
/-- What may be a table. -/
structure TblOk (g : List Sym) (sl : List Int) (fs : List (List Int)) : Prop where
  sg : sigB g = true
  len : sl.length = 32
  most : fs.length ≤ 24
  rng : ∀ x ∈ sl, x = -1 ∨ x = -2 ∨ (0 ≤ x ∧ x < fs.length)
  inj : Inj sl
  fact : ∀ a ∈ fs, factB g a = true
  dist : ∀ (i j : Nat) (a : List Int), fs[i]? = some a → fs[j]? = some a → i = j
  road : ∀ (k : Nat) (a : List Int), fs[k]? = some a → ∃ m, m < 32 ∧ gi sl (probe (hashM a).toNat m) = k ∧ ∀ m', m' < m → gi sl (probe (hashM a).toNat m') ≠ -1
theorem slotF_hit {sl : List Int} {fs : List (List Int)} {a : List Int} {h : Nat} : ∀ (n j m : Nat), j ≤ m → m < j + n → 0 ≤ gi sl (probe h m) → fs[(gi sl (probe h m)).toNat]? = some a → (∀ m', j ≤ m' → m' < m → gi sl (probe h m') ≠ -1 ∧ ¬ (0 ≤ gi sl (probe h m') ∧ fs[(gi sl (probe h m')).toNat]? = some a)) → slotF sl fs a h n j = (probe h m : Int)
  | 0, j, m, h1, h2, _, _, _ => by omega
  | n + 1, j, m, h1, h2, h3, h4, h5 => by
    unfold slotF
    by_cases hj : j = m
    · subst hj
      rw [if_neg (by omega), if_pos ⟨h3, h4⟩]
    · have := h5 j (Nat.le_refl _) (by omega)
      rw [if_neg this.1, if_neg this.2]
      exact slotF_hit n (j + 1) m (by omega) (by omega) h3 h4 (fun m' h6 h7 => h5 m' (by omega) h7)
theorem slotF_is {sl : List Int} {fs : List (List Int)} {a : List Int} {h : Nat} : ∀ (n j : Nat), 0 ≤ slotF sl fs a h n j → ∃ m, j ≤ m ∧ m < j + n ∧ slotF sl fs a h n j = (probe h m : Int) ∧ 0 ≤ gi sl (probe h m) ∧ fs[(gi sl (probe h m)).toNat]? = some a ∧ ∀ m', j ≤ m' → m' < m → gi sl (probe h m') ≠ -1
  | 0, j, h1 => by simp [slotF] at h1
  | n + 1, j, h1 => by
    unfold slotF at h1 ⊢
    split at h1
    · omega
    · rename_i hne
      split at h1
      · rename_i hx
        exact ⟨j, Nat.le_refl _, by omega, by rw [if_neg hne, if_pos hx], hx.1, hx.2, fun m' h2 h3 => by omega⟩
      · rename_i hx
        obtain ⟨m, h2, h3, h4, h5, h6, h7⟩ := slotF_is n (j + 1) h1
        refine ⟨m, by omega, by omega, by rw [if_neg hne, if_neg hx]; exact h4, h5, h6, fun m' h8 h9 => ?_⟩
        by_cases hj : m' = j
        · subst hj; exact hne
        · exact h7 m' (by omega) h9
theorem TblOk.slot {g : List Sym} {sl : List Int} {fs : List (List Int)} (t : TblOk g sl fs) {k : Nat} {a : List Int} (ha : fs[k]? = some a) : ∃ m, m < 32 ∧ slotM sl fs a = (probe (hashM a).toNat m : Int) ∧ gi sl (probe (hashM a).toNat m) = k := by
  obtain ⟨m, h1, h2, h3⟩ := t.road k a ha
  refine ⟨m, h1, ?_, h2⟩
  refine slotF_hit 32 0 m (Nat.zero_le _) (by omega) (by omega) (by rw [h2]; simpa using ha) (fun m' _ h5 => ⟨h3 m' h5, fun h6 => ?_⟩)
  have h7 := t.dist _ _ _ h6.2 ha
  have h8 : probe (hashM a).toNat m' = probe (hashM a).toNat m := inj_gi t.inj (by rw [t.len]; exact Nat.mod_lt _ (by omega)) (by rw [t.len]; exact Nat.mod_lt _ (by omega)) h6.1 (by omega)
  have := probe_inj (by omega) h1 h8
  omega
theorem tblB_ok {g : List Sym} {sl : List Int} {fs : List (List Int)} : tblB g sl fs = true ↔ TblOk g sl fs := by
  constructor
  · intro h
    simp only [tblB, Bool.and_eq_true, decide_eq_true_eq] at h
    obtain ⟨h1, h2, h3, h4, h5, h6⟩ := h
    have h7 := (slotsF_iff sl (List.replicate fs.length false) 0 (by simp)).1 h4
    have hs : ∀ (i : Nat) (a : List Int), fs[i]? = some a → 0 ≤ slotM sl fs a ∧ gi sl (slotM sl fs a).toNat = i := fun i a ha => by
      have := List.all_eq_true.1 h6 i (List.mem_range.2 (lt_at ha))
      rw [ha] at this
      simpa using this
    refine ⟨h1, h2, h3, fun x hx => ?_, h7.2.1, fun a ha => List.all_eq_true.1 h5 a ha, fun i j a hi hj => ?_, fun k a ha => ?_⟩
    · rcases h7.1 x hx with h | h | h
      · exact .inl h
      · exact .inr (.inl h)
      · exact .inr (.inr ⟨h.1, h.2.1⟩)
    · have e1 := (hs i a hi).2
      have e2 := (hs j a hj).2
      omega
    · have e1 := hs k a ha
      obtain ⟨m, m1, m2, m3, m4, m5, m6⟩ := slotF_is 32 0 e1.1
      refine ⟨m, by omega, ?_, fun m' hm' => m6 m' (Nat.zero_le _) hm'⟩
      have e2 := e1.2
      unfold slotM at e2
      rw [m3] at e2
      simpa using e2
  · intro t
    have hcov : ∀ k : Nat, k < fs.length → (k : Int) ∈ sl := fun k hk => by
      obtain ⟨a, ha⟩ := at_lt hk
      obtain ⟨m, h1, h2, _⟩ := t.road k a ha
      rw [← h2]
      exact gi_mem (by rw [t.len]; exact Nat.mod_lt _ (by omega))
    have hc : cnt sl = fs.length := by
      have h1 := covers_le _ _ hcov
      have h2 := cnt_le fs.length sl (fun x hx => by rcases t.rng x hx with h | h | h <;> omega) t.inj
      omega
    simp only [tblB, Bool.and_eq_true, decide_eq_true_eq]
    refine ⟨t.sg, t.len, t.most, (slotsF_iff sl (List.replicate fs.length false) 0 (by simp)).2 ⟨fun x hx => ?_, t.inj, by omega⟩, List.all_eq_true.2 t.fact, List.all_eq_true.2 fun i hi => ?_⟩
    · rcases t.rng x hx with h | h | h
      · exact .inl h
      · exact .inr (.inl h)
      · refine .inr (.inr ⟨h.1, h.2, ?_⟩)
        rw [List.getElem?_replicate]
        split <;> simp
    · obtain ⟨a, ha⟩ := at_lt (List.mem_range.1 hi)
      obtain ⟨m, h1, h2, h3⟩ := t.slot ha
      rw [ha]
      simp only [Bool.and_eq_true, decide_eq_true_eq, beq_iff_eq]
      rw [h2]
      exact ⟨by omega, by simpa using h3⟩
/-! ### The reference's -/
theorem lastF_is (x : Int) : ∀ (sl : List Int) (i : Nat) (at_ : Int), at_ < i → ((x ∉ sl ∧ lastF x sl i at_ = at_) ∨ ∃ j, j < sl.length ∧ gi sl j = x ∧ lastF x sl i at_ = ((i + j : Nat) : Int))
  | [], i, at_, h => .inl ⟨by simp, rfl⟩
  | y :: sl, i, at_, h => by
    unfold lastF
    rcases lastF_is x sl (i + 1) (if y = x then (i : Int) else at_) (by split <;> omega) with ⟨h1, h2⟩ | ⟨j, h1, h2, h3⟩
    · by_cases hy : y = x
      · rw [if_pos hy] at h2 ⊢
        exact .inr ⟨0, by simp, by simp [gi, hy], by rw [h2]; rfl⟩
      · rw [if_neg hy] at h2 ⊢
        exact .inl ⟨by simp [h1, Ne.symm hy], h2⟩
    · refine .inr ⟨j + 1, by simp; omega, by simpa [gi] using h2, ?_⟩
      rw [h3]
      omega
theorem lastM_is (sl : List Int) (x : Int) : (x ∉ sl ∧ lastM sl x = -1) ∨ ∃ j : Nat, j < sl.length ∧ gi sl j = x ∧ lastM sl x = (j : Int) := by
  rcases lastF_is x sl 0 (-1) (by omega) with h | ⟨j, h1, h2, h3⟩
  · exact .inl h
  · exact .inr ⟨j, h1, h2, by unfold lastM; rw [h3]; simp⟩
theorem whereF_is (a : List Int) : ∀ (fs : List (List Int)) (i : Nat), (a ∉ fs ∧ whereF a fs i = -1) ∨ ∃ j, fs[j]? = some a ∧ whereF a fs i = ((i + j : Nat) : Int) ∧ ∀ k, k < j → fs[k]? ≠ some a
  | [], i => .inl ⟨by simp, rfl⟩
  | b :: fs, i => by
    unfold whereF
    by_cases hb : b = a
    · rw [if_pos hb]
      exact .inr ⟨0, by simp [hb], rfl, fun k hk => by omega⟩
    · rw [if_neg hb]
      rcases whereF_is a fs (i + 1) with ⟨h1, h2⟩ | ⟨j, h1, h2, h3⟩
      · exact .inl ⟨by simp [h1, Ne.symm hb], h2⟩
      · refine .inr ⟨j + 1, by simpa using h1, by rw [h2]; omega, fun k hk => ?_⟩
        cases k with
        | zero => simp [hb]
        | succ k => simpa using h3 k (by omega)
theorem whereM_is (fs : List (List Int)) (a : List Int) : (a ∉ fs ∧ whereM fs a = -1) ∨ ∃ j : Nat, fs[j]? = some a ∧ whereM fs a = (j : Int) ∧ ∀ k, k < j → fs[k]? ≠ some a := by
  rcases whereF_is a fs 0 with h | ⟨j, h1, h2, h3⟩
  · exact .inl h
  · exact .inr ⟨j, h1, by unfold whereM; rw [h2]; simp, h3⟩
theorem roadF_no {sl : List Int} {h at_ m : Nat} (hm : m < 32) (he : probe h m = at_) : ∀ (n j : Nat), j ≤ m → m < j + n → roadF sl at_ n (probe h j) = true → ∀ m', j ≤ m' → m' < m → gi sl (probe h m') ≠ -1
  | 0, j, h1, h2, h3, m', h4, h5 => by omega
  | n + 1, j, h1, h2, h3, m', h4, h5 => by
    unfold roadF at h3
    rw [if_neg (fun e => by have := probe_inj (by omega) hm (e.trans he.symm); omega)] at h3
    split at h3
    · cases h3
    · rename_i hf
      rw [probe_step] at h3
      by_cases hj : m' = j
      · subst hj; exact hf
      · exact roadF_no hm he n (j + 1) (by omega) (by omega) h3 m' (by omega) h5
theorem roadF_yes {sl : List Int} {h at_ m : Nat} (he : probe h m = at_) : ∀ (n j : Nat), j ≤ m → m < j + n → (∀ m', j ≤ m' → m' < m → gi sl (probe h m') ≠ -1) → roadF sl at_ n (probe h j) = true
  | 0, j, h1, h2, h3 => by omega
  | n + 1, j, h1, h2, h3 => by
    unfold roadF
    split
    · rfl
    · rename_i hne
      have hj : j ≠ m := fun e => hne (e ▸ he)
      rw [if_neg (h3 j (Nat.le_refl _) (by omega)), probe_step]
      exact roadF_yes he n (j + 1) (by omega) (by omega) (fun m' h4 h5 => h3 m' (by omega) h5)
theorem rtblB_ok {g : List Sym} {sl : List Int} {fs : List (List Int)} : rtblB g sl fs = true ↔ TblOk g sl fs := by
  constructor
  · intro h
    simp only [rtblB, Bool.and_eq_true, decide_eq_true_eq, beq_iff_eq] at h
    obtain ⟨h1, h2, h3, h4, h5, h6⟩ := h
    have he : ∀ (k : Nat) (a : List Int), fs[k]? = some a → factB g a = true ∧ whereM fs a = k ∧ 0 ≤ lastM sl k ∧ roadF sl (lastM sl k).toNat 32 ((hashM a).toNat % 32) = true := fun k a ha => by
      have := List.all_eq_true.1 h6 k (List.mem_range.2 (lt_at ha))
      simp only [eachB, ha, Bool.and_eq_true, decide_eq_true_eq, beq_iff_eq] at this
      exact this
    have hl : ∀ (k : Nat) (a : List Int), fs[k]? = some a → ∃ j, j < 32 ∧ gi sl j = k ∧ lastM sl k = (j : Int) := fun k a ha => by
      rcases lastM_is sl (k : Int) with ⟨_, h7⟩ | ⟨j, h7, h8, h9⟩
      · have := (he k a ha).2.2.1; omega
      · exact ⟨j, by omega, h8, h9⟩
    have hcov : ∀ k : Nat, k < fs.length → (k : Int) ∈ sl := fun k hk => by
      obtain ⟨a, ha⟩ := at_lt hk
      obtain ⟨j, h7, h8, _⟩ := hl k a ha
      rw [← h8]; exact gi_mem (by omega)
    refine ⟨h1, h2, h3, fun x hx => ?_, inj_of (by rw [taken_cnt] at h5; omega) hcov, fun a ha => ?_, fun i j a hi hj => ?_, fun k a ha => ?_⟩
    · have := List.all_eq_true.1 h4 x hx
      simp at this
      omega
    · obtain ⟨k, hk, rfl⟩ := List.getElem_of_mem ha
      exact (he k _ (by simp [hk])).1
    · have e1 := (he i a hi).2.1
      have e2 := (he j a hj).2.1
      omega
    · obtain ⟨j, j1, j2, j3⟩ := hl k a ha
      obtain ⟨m, m1, m2⟩ := probe_onto (hashM a).toNat j1
      have hr := (he k a ha).2.2.2
      rw [j3] at hr
      have h7 : (hashM a).toNat % 32 = probe (hashM a).toNat 0 := rfl
      rw [h7] at hr
      exact ⟨m, m1, by rw [m2]; exact j2, fun m' hm' => roadF_no m1 (by rw [m2]; simp) 32 0 (Nat.zero_le _) (by omega) hr m' (Nat.zero_le _) hm'⟩
  · intro t
    have hcov : ∀ k : Nat, k < fs.length → (k : Int) ∈ sl := fun k hk => by
      obtain ⟨a, ha⟩ := at_lt hk
      obtain ⟨m, h1, h2, _⟩ := t.road k a ha
      rw [← h2]
      exact gi_mem (by rw [t.len]; exact Nat.mod_lt _ (by omega))
    have hc : cnt sl = fs.length := by
      have h1 := covers_le _ _ hcov
      have h2 := cnt_le fs.length sl (fun x hx => by rcases t.rng x hx with h | h | h <;> omega) t.inj
      omega
    simp only [rtblB, Bool.and_eq_true, decide_eq_true_eq, beq_iff_eq]
    refine ⟨t.sg, t.len, t.most, List.all_eq_true.2 fun x hx => ?_, by rw [taken_cnt]; omega, List.all_eq_true.2 fun k hk => ?_⟩
    · rcases t.rng x hx with h | h | h <;> simp <;> omega
    · obtain ⟨a, ha⟩ := at_lt (List.mem_range.1 hk)
      obtain ⟨m, h1, h2, h3⟩ := t.road k a ha
      have hp : probe (hashM a).toNat m < sl.length := by rw [t.len]; exact Nat.mod_lt _ (by omega)
      have hlast : lastM sl k = (probe (hashM a).toNat m : Int) := by
        rcases lastM_is sl (k : Int) with ⟨h7, _⟩ | ⟨j, h7, h8, h9⟩
        · exact (h7 (h2 ▸ gi_mem hp)).elim
        · rw [h9, inj_gi t.inj h7 hp (by omega) (by omega)]
      have hwh : whereM fs a = k := by
        rcases whereM_is fs a with ⟨h7, _⟩ | ⟨j, h7, h8, _⟩
        · exact (h7 (List.mem_of_getElem? ha)).elim
        · rw [h8, t.dist _ _ _ h7 ha]
      simp only [eachB, ha, Bool.and_eq_true, decide_eq_true_eq, beq_iff_eq]
      refine ⟨t.fact a (List.mem_of_getElem? ha), hwh, by rw [hlast]; omega, ?_⟩
      rw [hlast]
      exact roadF_yes (h := (hashM a).toNat) (m := m) (Int.toNat_natCast _).symm 32 0 (Nat.zero_le _) (by omega) (fun m' _ hm' => h3 m' hm')
theorem tbl_same (g : List Sym) (sl : List Int) (fs : List (List Int)) : rtblB g sl fs = tblB g sl fs := by
  rw [Bool.eq_iff_iff, rtblB_ok, tblB_ok]
theorem TblOk.has {g : List Sym} {sl : List Int} {fs : List (List Int)} (t : TblOk g sl fs) (a : List Int) : 0 ≤ slotM sl fs a ↔ a ∈ fs := by
  constructor
  · intro h
    obtain ⟨m, _, _, _, _, h5, _⟩ := slotF_is 32 0 h
    exact List.mem_of_getElem? h5
  · intro h
    obtain ⟨k, hk, rfl⟩ := List.getElem_of_mem h
    obtain ⟨m, _, h2, _⟩ := t.slot (k := k) (a := fs[k]) (by simp [hk])
    rw [h2]; omega
theorem where_has (fs : List (List Int)) (a : List Int) : 0 ≤ whereM fs a ↔ a ∈ fs := by
  rcases whereM_is fs a with ⟨h1, h2⟩ | ⟨j, h1, h2, _⟩
  · rw [h2]; simp [h1]
  · rw [h2]; simp [List.mem_of_getElem? h1]
theorem has_same (g : List Sym) (sl : List Int) (fs : List (List Int)) (a : List Int) : ((tblB g sl fs && factB g a) && decide (0 ≤ slotM sl fs a)) = ((rtblB g sl fs && factB g a) && decide (0 ≤ whereM fs a)) := by
  rw [tbl_same]
  cases ht : tblB g sl fs
  · simp
  · have := (tblB_ok.1 ht).has a
    rw [show (decide (0 ≤ slotM sl fs a)) = decide (0 ≤ whereM fs a) by rw [decide_eq_decide, this, where_has]]
end Go.Qu

/- Facts: for every input the law returns true. No condition. -/
set_option linter.unusedVariables false
set_option linter.unusedSimpArgs false
set_option maxRecDepth 100000
namespace Go.Proofs.YtckhlalpnginjaaDoor.Ab
open Go Go.Ab Go.Qu Go.Proofs
attribute [local simp] and_assoc
theorem w_awake : C 20 [] = some (iB true, []) := W_ev (n := 60) (by kernel_rfl)
theorem fl_fresh (fs : List Row) : fl (fs.map fresh) = fl fs := by simp [fl, fresh]
theorem law_facts (z z' zs zf : Bool) (g : List Sym) (e e' es ef : List D) {sl a : List Int} {fs : List Row} (hsl : Len sl) (hfs : fs.length * 24 ≤ 140737488351232) (hrows : ∀ r ∈ fs, Len r.l) : C 3 [iG z g e, iT zs sl es zf fs ef, iS z' a e'] = some (iB true, [iG z g e, iT zs sl es zf fs ef, iS z' a e']) := by
  refine wfn (lk := []) rfl rfl (fnW_way (q3 _ _ z (syms g) e zs (ints sl) es zf (rws fs) ef z' (ints a) e' _) ?_)
  have h1 := w_copytable zs zf es ef hsl hfs hrows
  have h2 := w_fhash z z' g e e' a
  have h3 := w_rhash z z' g e e' a
  have h4 := w_has zs zf es ef hsl hfs hrows z z' g e e' a
  have h5 := w_rhas zs zf es ef hsl hfs hrows z z' g e e' a
  have h6 := w_tmay zs zf es ef hsl hfs hrows z g e
  have h7 := w_rtmay zs zf es ef hsl hfs hrows z g e
  have h8 := w_sametable zs zf es ef hsl hfs hrows sl (fs.map fresh) false fs.isEmpty [] []
  have h9 := w_sametable (sl := List.replicate 32 (-1)) (fs := []) false true [] [] (by unfold Len; decide) (by simp) (by simp) (List.replicate 32 (-1)) [] false true [] []
  rw [← has_same, tbl_same] at h5
  rw [tbl_same] at h7
  simp only [fl_fresh, and_self, decide_true] at h8 h9
  generalize tblB g sl (fl fs) = B at *
  generalize hA : factB g a = A at *
  generalize (B && A && decide (0 ≤ slotM sl (fl fs) a)) = E at *
  have h10 := w_new
  have h11 := w_rnew
  generalize List.replicate 32 (-1 : Int) = N at h9 h10 h11
  simp only [iT, rws_nil] at h9
  cases E <;> cases B <;> simp [-Bool.exists_bool, h1, h2, h3, h4, h5, h6, h7, h8, h9, h10, h11, w_awake]
theorem good_table {n : Nat} {x : D} (h : Go.Ab.Good Tryd.prog (n + 4) 26 x) : ∃ zs sl zf fs, x = .agg [.sl 1 zs (ints sl) [], .sl 1 zf (rws fs) []] ∧ Len sl ∧ fs.length * 24 ≤ 140737488351232 ∧ ∀ r ∈ fs, Len r.l := by
  unfold Go.Ab.Good at h
  rw [Tryd.underlying26] at h
  obtain ⟨ys, rfl, y0, r0, rfl, h0, y1, r1, rfl, h1, rfl⟩ := h
  obtain ⟨zs, sl, rfl, hsl⟩ := good_ints h0
  obtain ⟨zf, fs, rfl, hfs, hr⟩ := good_rows h1
  exact ⟨zs, sl, zf, fs, rfl, hsl, hfs, hr⟩
theorem call_facts (y0 y1 y2 : D) (g0 : Go.Ab.Good Tryd.prog 12 22 y0) (g1 : Go.Ab.Good Tryd.prog 12 26 y1) (g2 : Go.Ab.Good Tryd.prog 12 23 y2) : ∃ outs, C 3 [.d y0, .d y1, .d y2] = some (iB true, outs) := by
  obtain ⟨z, g, rfl⟩ := good_sig g0
  obtain ⟨zs, sl, zf, fs, rfl, hsl, hfs, hr⟩ := good_table g1
  obtain ⟨z', a, rfl, _⟩ := good_ints g2
  exact ⟨_, law_facts z z' zs zf g [] [] [] [] hsl hfs hr⟩
end Go.Proofs.YtckhlalpnginjaaDoor.Ab

/- Tables of facts: put in, taken out, spoilt. Plain lists; no condition. -/
set_option linter.unusedVariables false
set_option linter.unusedSimpArgs false
namespace Go.Qu
open Go Go.Ab

theorem probe_lt32 (h k : Nat) : probe h k < 32 := Nat.mod_lt _ (by omega)
theorem gi_set {l : List Int} {i : Nat} (x : Int) (j : Nat) (hi : i < l.length) : gi (l.set i x) j = if i = j then x else gi l j := by
  simp only [gi, List.getD_eq_getElem?_getD, List.getElem?_set]
  by_cases h : i = j
  · subst h; simp [hi]
  · simp [h]
section
variable {g : List Sym} {sl : List Int} {fs : List (List Int)}
theorem TblOk.at_ (t : TblOk g sl fs) {i : Nat} (hi : i < 32) : gi sl i = -1 ∨ gi sl i = -2 ∨ (0 ≤ gi sl i ∧ gi sl i < fs.length) := t.rng _ (gi_mem (by rw [t.len]; exact hi))
theorem TblOk.uniq (t : TblOk g sl fs) {i j : Nat} (hi : i < 32) (hj : j < 32) (h0 : 0 ≤ gi sl i) (he : gi sl i = gi sl j) : i = j := inj_gi t.inj (by rw [t.len]; exact hi) (by rw [t.len]; exact hj) h0 he
theorem tbl_mk (sg : sigB g = true) (len : sl.length = 32) (most : fs.length ≤ 24) (h1 : ∀ i, i < 32 → gi sl i = -1 ∨ gi sl i = -2 ∨ (0 ≤ gi sl i ∧ gi sl i < fs.length)) (h2 : ∀ i j, i < 32 → j < 32 → 0 ≤ gi sl i → gi sl i = gi sl j → i = j)
    (fact : ∀ a ∈ fs, factB g a = true) (dist : ∀ (i j : Nat) (a : List Int), fs[i]? = some a → fs[j]? = some a → i = j) (road : ∀ (k : Nat) (a : List Int), fs[k]? = some a → ∃ m, m < 32 ∧ gi sl (probe (hashM a).toNat m) = k ∧ ∀ m', m' < m → gi sl (probe (hashM a).toNat m') ≠ -1) : TblOk g sl fs := by
  refine ⟨sg, len, most, fun x hx => ?_, gi_inj fun i j hi hj => h2 i j (by omega) (by omega), fact, dist, road⟩
  obtain ⟨i, hi, rfl⟩ := mem_gi hx
  exact h1 i (by omega)
/-- What is put in: the table is one. -/
theorem put_ok (t : TblOk g sl fs) {a : List Int} (ha : factB g a = true) (hn : a ∉ fs) (hl : fs.length < 24) {m : Nat} (hm : m < 32) (h1 : gi sl (probe (hashM a).toNat m) < 0) : TblOk g (sl.set (probe (hashM a).toNat m) fs.length) (fs ++ [a]) → TblOk g (sl.set (probe (hashM a).toNat m) fs.length) (fs ++ [a]) := id
theorem put_tbl (t : TblOk g sl fs) {a : List Int} (ha : factB g a = true) (hn : a ∉ fs) (hl : fs.length < 24) {m : Nat} (hm : m < 32) (h1 : gi sl (probe (hashM a).toNat m) < 0) (h2 : ∀ m', m' < m → 0 ≤ gi sl (probe (hashM a).toNat m')) : TblOk g (sl.set (probe (hashM a).toNat m) fs.length) (fs ++ [a]) := by
  have hq := probe_lt32 (hashM a).toNat m
  have hs : ∀ j, gi (sl.set (probe (hashM a).toNat m) fs.length) j = if probe (hashM a).toNat m = j then (fs.length : Int) else gi sl j := fun j => gi_set _ _ (by rw [t.len]; exact hq)
  refine tbl_mk t.sg (by rw [List.length_set]; exact t.len) (by simp; omega) (fun i hi => ?_) (fun i j hi hj h0 he => ?_) (fun x hx => ?_) (fun i j x hi hj => ?_) (fun k x hk => ?_)
  · rw [hs i]
    have := t.at_ hi
    split <;> simp <;> omega
  · rw [hs i] at h0
    rw [hs i, hs j] at he
    have ri := t.at_ hi
    have rj := t.at_ hj
    by_cases e1 : probe (hashM a).toNat m = i
    · by_cases e2 : probe (hashM a).toNat m = j
      · omega
      · rw [if_pos e1, if_neg e2] at he; omega
    · by_cases e2 : probe (hashM a).toNat m = j
      · rw [if_neg e1, if_pos e2] at he; omega
      · rw [if_neg e1, if_neg e2] at he
        rw [if_neg e1] at h0
        exact t.uniq hi hj h0 he
  · rcases List.mem_append.1 hx with hx | hx
    · exact t.fact x hx
    · simp at hx; subst hx; exact ha
  · have hm : ∀ {i : Nat} {x : List Int}, (fs ++ [a])[i]? = some x → (i < fs.length ∧ fs[i]? = some x) ∨ (i = fs.length ∧ x = a) := fun {i x} h => by
      by_cases hi : i < fs.length
      · rw [List.getElem?_append_left hi] at h; exact .inl ⟨hi, h⟩
      · rw [List.getElem?_append_right (by omega)] at h
        have hz : i - fs.length = 0 := by
          have := lt_at h; simp at this; omega
        rw [hz] at h
        simp at h
        exact .inr ⟨by omega, h.symm⟩
    rcases hm hi with ⟨h3, h4⟩ | ⟨h3, h4⟩ <;> rcases hm hj with ⟨h5, h6⟩ | ⟨h5, h6⟩
    · exact t.dist i j x h4 h6
    · subst h6; exact absurd (List.mem_of_getElem? h4) hn
    · subst h4; exact absurd (List.mem_of_getElem? h6) hn
    · omega
  · by_cases hkl : k < fs.length
    · rw [List.getElem?_append_left hkl] at hk
      obtain ⟨m0, r1, r2, r3⟩ := t.road k x hk
      refine ⟨m0, r1, ?_, fun m' hm' => ?_⟩
      · rw [hs, if_neg, r2]
        intro e; rw [e, r2] at h1; omega
      · rw [hs]
        split
        · omega
        · exact r3 m' hm'
    · rw [List.getElem?_append_right (by omega)] at hk
      have hz : k - fs.length = 0 := by
        have := lt_at hk; simp at this; omega
      rw [hz] at hk
      simp at hk
      subst hk
      refine ⟨m, hm, by rw [hs, if_pos rfl]; omega, fun m' hm' => ?_⟩
      rw [hs]
      have := h2 m' hm'
      split <;> omega
/-- What is taken out: the table is one. -/
theorem cut_tbl (t : TblOk g sl fs) {p q r : Nat} {sl' : List Int} {fs' : List (List Int)} (hp : p < fs.length) (hq : q < 32) (hr : r < 32) (gq : gi sl q = p) (gr : gi sl r = ((fs.length - 1 : Nat) : Int)) (hsl : sl'.length = 32) (hfs : fs'.length = fs.length - 1)
    (hs : ∀ i, i < 32 → gi sl' i = if p ≠ fs.length - 1 ∧ i = r then (p : Int) else if i = q then -2 else gi sl i) (hf : ∀ k, k < fs.length - 1 → fs'[k]? = if k = p then fs[fs.length - 1]? else fs[k]?) : TblOk g sl' fs' := by
  have hrq : p = fs.length - 1 → r = q := fun e => t.uniq hr hq (by rw [gr]; omega) (by rw [gq, gr]; omega)
  have back : ∀ {k : Nat} {x : List Int}, fs'[k]? = some x → k < fs.length - 1 ∧ fs[if k = p then fs.length - 1 else k]? = some x := fun {k x} h => by
    have hk : k < fs.length - 1 := by have := lt_at h; omega
    refine ⟨hk, ?_⟩
    rw [hf k hk] at h
    split at h <;> simp_all
  have hm := t.most
  refine tbl_mk t.sg hsl (by omega) (fun i hi => ?_) (fun i j hi hj h0 he => ?_) (fun x hx => ?_) (fun i j x hi hj => ?_) (fun k x hk => ?_)
  · rw [hs i hi, hfs]
    have ri := t.at_ hi
    by_cases e1 : p ≠ fs.length - 1 ∧ i = r
    · rw [if_pos e1]; omega
    rw [if_neg e1]
    by_cases e2 : i = q
    · rw [if_pos e2]; omega
    rw [if_neg e2]
    have hv : 0 ≤ gi sl i → gi sl i ≠ ((fs.length - 1 : Nat) : Int) := fun h0 he => by
      have e3 : i = r := t.uniq hi hr h0 (by rw [he, gr])
      by_cases e4 : p = fs.length - 1
      · exact e2 (by rw [e3, hrq e4])
      · exact e1 ⟨e4, e3⟩
    omega
  · rw [hs i hi] at h0 he
    rw [hs j hj] at he
    by_cases e1 : p ≠ fs.length - 1 ∧ i = r
    · rw [if_pos e1] at he
      by_cases e2 : p ≠ fs.length - 1 ∧ j = r
      · omega
      · rw [if_neg e2] at he
        by_cases e3 : j = q
        · rw [if_pos e3] at he; omega
        · rw [if_neg e3] at he
          exact absurd (t.uniq hj hq (by omega) (by rw [gq]; exact he.symm)) e3
    · rw [if_neg e1] at he h0
      by_cases e3 : i = q
      · rw [if_pos e3] at h0; omega
      rw [if_neg e3] at he h0
      by_cases e2 : p ≠ fs.length - 1 ∧ j = r
      · rw [if_pos e2] at he
        exact absurd (t.uniq hi hq h0 (by rw [gq]; exact he)) e3
      · rw [if_neg e2] at he
        by_cases e4 : j = q
        · rw [if_pos e4] at he; omega
        · rw [if_neg e4] at he
          exact t.uniq hi hj h0 he
  · obtain ⟨k, hk, hkx⟩ := List.getElem_of_mem hx
    have hk2 : fs'[k]? = some x := by rw [List.getElem?_eq_getElem hk, hkx]
    exact t.fact x (List.mem_of_getElem? (back hk2).2)
  · have b1 := back hi
    have b2 := back hj
    have := t.dist _ _ x b1.2 b2.2
    split at this <;> split at this <;> omega
  · have b1 := back hk
    by_cases e1 : k = p
    · rw [if_pos e1] at b1
      obtain ⟨m, r1, r2, r3⟩ := t.road _ x b1.2
      have e2 : probe (hashM x).toNat m = r := t.uniq (probe_lt32 _ _) hr (by rw [r2]; omega) (by rw [r2, gr])
      refine ⟨m, r1, ?_, fun m' hm' => ?_⟩
      · rw [e2, hs r hr, if_pos ⟨by omega, rfl⟩]; omega
      · have := r3 m' hm'
        rw [hs _ (probe_lt32 _ _)]
        split
        · omega
        · split <;> omega
    · rw [if_neg e1] at b1
      obtain ⟨m, r1, r2, r3⟩ := t.road _ x b1.2
      refine ⟨m, r1, ?_, fun m' hm' => ?_⟩
      · rw [hs _ (probe_lt32 _ _), if_neg, if_neg, r2]
        · intro e; rw [e, gq] at r2; omega
        · rintro ⟨_, e⟩; rw [e, gr] at r2; omega
      · have := r3 m' hm'
        rw [hs _ (probe_lt32 _ _)]
        split
        · omega
        · split <;> omega
/-- The facts that are left. -/
def outF (fs : List (List Int)) (p : Nat) : List (List Int) := (fs.set p (fs.getD (fs.length - 1) [])).take (fs.length - 1)
theorem outF_len (fs : List (List Int)) (p : Nat) : (outF fs p).length = fs.length - 1 := by simp [outF]
theorem outF_at {p k : Nat} (hp : p < fs.length) (hk : k < fs.length - 1) : (outF fs p)[k]? = if k = p then fs[fs.length - 1]? else fs[k]? := by
  have h1 : fs.length - 1 < fs.length := by omega
  simp only [outF, List.getElem?_take, List.getElem?_set, hk, if_true]
  by_cases e : p = k
  · subst e; simp [hp, h1]
  · simp [e, Ne.symm e, fun h : k = p => e h.symm]
theorem outF_mem (t : TblOk g sl fs) {p : Nat} {a : List Int} (hp : fs[p]? = some a) (x : List Int) : x ∈ outF fs p ↔ x ∈ fs ∧ x ≠ a := by
  have hpl := lt_at hp
  constructor
  · intro hx
    obtain ⟨k, hk, hkx⟩ := List.getElem_of_mem hx
    have h1 : (outF fs p)[k]? = some x := by rw [List.getElem?_eq_getElem hk, hkx]
    rw [outF_len] at hk
    rw [outF_at hpl hk] at h1
    split at h1
    · refine ⟨List.mem_of_getElem? h1, fun e => ?_⟩
      subst e
      have := t.dist _ _ _ hp h1
      omega
    · rename_i hkp
      refine ⟨List.mem_of_getElem? h1, fun e => ?_⟩
      subst e
      have := t.dist _ _ _ hp h1
      omega
  · rintro ⟨hx, hne⟩
    obtain ⟨k, hk, hkx⟩ := List.getElem_of_mem hx
    have h1 : fs[k]? = some x := by rw [List.getElem?_eq_getElem hk, hkx]
    have hkp : k ≠ p := fun e => by subst e; rw [hp] at h1; cases h1; exact hne rfl
    by_cases hl : k = fs.length - 1
    · have : p < fs.length - 1 := by omega
      refine List.mem_of_getElem? (i := p) ?_
      rw [outF_at hpl this, if_pos rfl, ← hl]; exact h1
    · refine List.mem_of_getElem? (i := k) ?_
      rw [outF_at hpl (by omega), if_neg hkp]; exact h1
theorem outF_last (fs : List (List Int)) (a : List Int) : outF (fs ++ [a]) fs.length = fs := by
  simp [outF]
/-- A slot that tells of another fact, of none, or of one twice. -/
theorem spoilt (t : TblOk g sl fs) {i : Nat} {x : Int} (hi : i < 32) (h1 : gi sl i ≠ x) (h2 : ¬ (gi sl i < 0 ∧ x < 0)) : ¬ TblOk g (sl.set i x) fs := by
  intro u
  have hs : ∀ j, gi (sl.set i x) j = if i = j then x else gi sl j := fun j => gi_set _ _ (by rw [t.len]; exact hi)
  by_cases h0 : 0 ≤ gi sl i
  · obtain ⟨a, ha⟩ := at_lt (l := fs) (i := (gi sl i).toNat) (by have := t.at_ hi; omega)
    obtain ⟨m, r1, r2, r3⟩ := u.road _ a ha
    rw [hs] at r2
    split at r2
    · omega
    · rename_i hne
      exact hne (t.uniq hi (probe_lt32 _ _) h0 (by rw [r2]; omega))
  · have hx : 0 ≤ x := by omega
    have hu := u.at_ hi
    rw [hs, if_pos rfl] at hu
    obtain ⟨a, ha⟩ := at_lt (l := fs) (i := x.toNat) (by omega)
    obtain ⟨m, r1, r2, r3⟩ := t.road _ a ha
    have hne : i ≠ probe (hashM a).toNat m := fun e => by rw [← e] at r2; omega
    have := u.uniq hi (probe_lt32 (hashM a).toNat m) (by rw [hs, if_pos rfl]; exact hx) (by rw [hs, hs, if_pos rfl, if_neg hne, r2]; omega)
    exact hne this
/-! ### The first slot without a fact -/
def freeF (sl : List Int) (h : Nat) : Nat → Nat → Nat
  | 0, j => j
  | n + 1, j => if 0 ≤ gi sl (probe h j) then freeF sl h n (j + 1) else j
theorem freeF_is (sl : List Int) (h : Nat) : ∀ (n j : Nat), (∃ m, j ≤ m ∧ m < j + n ∧ gi sl (probe h m) < 0) → j ≤ freeF sl h n j ∧ freeF sl h n j < j + n ∧ gi sl (probe h (freeF sl h n j)) < 0 ∧ ∀ m', j ≤ m' → m' < freeF sl h n j → 0 ≤ gi sl (probe h m')
  | 0, j, ⟨m, h1, h2, h3⟩ => by omega
  | n + 1, j, ⟨m, h1, h2, h3⟩ => by
    unfold freeF
    by_cases h0 : 0 ≤ gi sl (probe h j)
    · rw [if_pos h0]
      have hmj : m ≠ j := fun e => by rw [e] at h3; omega
      obtain ⟨i1, i2, i3, i4⟩ := freeF_is sl h n (j + 1) ⟨m, by omega, by omega, h3⟩
      refine ⟨by omega, by omega, i3, fun m' g1 g2 => ?_⟩
      by_cases e : m' = j
      · rw [e]; exact h0
      · exact i4 m' (by omega) g2
    · rw [if_neg h0]
      exact ⟨Nat.le_refl _, by omega, by omega, fun m' g1 g2 => by omega⟩
theorem cnt_all : ∀ (l : List Int), (∀ x ∈ l, 0 ≤ x) → cnt l = l.length
  | [], h => rfl
  | x :: l, h => by
    have := cnt_all l (fun y hy => h y (by simp [hy]))
    have h0 := h x (by simp)
    have := cnt_mid [] l h0
    simp at this ⊢
    omega
theorem TblOk.free (t : TblOk g sl fs) (h : Nat) : ∃ m, m < 32 ∧ gi sl (probe h m) < 0 := by
  by_cases hx : ∃ m, m < 32 ∧ gi sl (probe h m) < 0
  · exact hx
  · have h1 : ∀ x ∈ sl, 0 ≤ x := fun x hx' => by
      obtain ⟨i, hi, rfl⟩ := mem_gi hx'
      obtain ⟨m, hm, he⟩ := probe_onto h (i := i) (by rw [t.len] at hi; exact hi)
      by_cases h0 : 0 ≤ gi sl i
      · exact h0
      · exact absurd ⟨m, hm, by rw [he]; omega⟩ hx
    have h2 := cnt_all sl h1
    have h3 := cnt_le fs.length sl (fun x hx' => by have := t.rng x hx'; omega) t.inj
    have := t.most
    have := t.len
    omega
end
end Go.Qu

/- Tables of facts: put in, taken out: what the program's functions hand back. For every input; no condition. -/
set_option linter.unusedVariables false
set_option linter.unusedSimpArgs false
set_option maxRecDepth 100000
namespace Go.Proofs.YtckhlalpnginjaaDoor.Ab
open Go Go.Ab Go.Qu Go.Proofs
attribute [local simp] and_assoc
theorem w_clone {a : List Int} (ha : Len a) {z : Bool} (hz : z = true → a = []) (e : List D) : C 43 [iS z a e] = some (.own z 3 1 (ints a), [iS z a e]) := by
  unfold Len at ha
  refine wfn (lk := []) rfl rfl (fnW_way (q43 _ _ z (ints a) e _) ?_)
  cases z with
  | true => have := hz rfl; subst this; simp [ints_nil]
  | false => simp [ints_len]; omega
/-- Rows without the room behind them. -/
def bare (r : Row) : Row := ⟨r.z, r.l, []⟩
def NilOk (r : Row) : Prop := r.z = true → r.l = []
theorem fl_bare (fs : List Row) : fl (fs.map bare) = fl fs := by simp [fl, bare]
theorem w_copied {sl : List Int} {fs : List Row} (hsl : Len sl) (hfs : fs.length * 24 ≤ 140737488351232) (hrows : ∀ r ∈ fs, Len r.l ∧ NilOk r) {zs : Bool} (hz : zs = true → sl = []) (zf : Bool) (es ef : List D) : C 42 [iT zs sl es zf fs ef] = some (.agg [.own zs 3 1 (ints sl), .own fs.isEmpty 23 1 (rws (fs.map bare))], [iT zs sl es zf fs ef]) := by
  refine wfn (lk := []) rfl rfl (fnW_way (q42 _ _ zs (ints sl) es zf (rws fs) ef _) ?_)
  have h1 := blk_fun (F := F) (d := d42) (lk := []) (p := [1,1,0,1,0,0]) (p0 := [1,1,0,1]) (id := 0) (by kernel_rfl) (st := fun (i : Nat) => [(2, .ptr 26 0 [.d (.sl 1 true [] []), .own true 23 1 []]), (3, .ptr 26 0 [.own zs 3 1 (ints sl), .own (fs.take i).isEmpty 23 1 (rws ((fs.take i).map bare))]), (11, iR zf fs ef), (12, iI fs.length), (13, iI i)]) (I := fun i => i ≤ fs.length) (μ := fun i => fs.length - i)
    (res := fun _ => .norm [(2, .ptr 26 0 [.d (.sl 1 true [] []), .own true 23 1 []]), (3, .ptr 26 0 [.own zs 3 1 (ints sl), .own fs.isEmpty 23 1 (rws (fs.map bare))]), (11, iR zf fs ef), (12, iI fs.length), (13, iI fs.length)])
    (fun i hi => by
      by_cases h : i < fs.length
      · obtain ⟨r, hr1⟩ := at_lt h
        have hL := hrows r (List.mem_of_getElem? hr1)
        have e1 : fs.take (i + 1) = fs.take i ++ [r] := by rw [List.take_add_one, hr1]; rfl
        refine .go (i + 1) (wpQ_way (q42_l0a _ _ true [] zs (ints sl) _ _ zf (rws fs) ef _ i _) ?_) h (by omega) rfl
        have e2 : (rws ((fs.take i).map bare)).length = i := by rw [rws_len, List.length_map, List.length_take]; omega
        have hi' : (i : Int) < fs.length := by omega
        simp [-Bool.exists_bool, -getElem?_pos, -Int.natCast_add, -List.map_take, h, rws_at hr1, w_clone hL.1 hL.2, wr1 h (by omega), e1, rws_append, rws_cons, rws_nil, e2]
        simp [bare]
        omega
      · have e1 : i = fs.length := by omega
        subst e1
        refine .stop (.exit 0 [(2, .ptr 26 0 [.d (.sl 1 true [] []), .own true 23 1 []]), (3, .ptr 26 0 [.own zs 3 1 (ints sl), .own fs.isEmpty 23 1 (rws (fs.map bare))]), (11, iR zf fs ef), (12, iI fs.length), (13, iI fs.length)]) (wpQ_way (q42_l0a _ _ true [] zs (ints sl) _ _ zf (rws fs) ef _ fs.length _) ?_) rfl rfl
        simp [rws_len]) 0 (Nat.zero_le _)
  simp [rws_nil] at h1
  simp [-Bool.exists_bool, w_clone hsl hz, rws_len, h1]
theorem w_index {l : List Int} (hl : Len l) {r : Nat} {x : Int} (hr : r < l.length) (h1 : gi l r = x) (h2 : ∀ i, i < r → gi l i ≠ x) (z : Bool) (e : List D) : C 45 [iS z l e, iI x] = some (iI r, [iS z l e, iI x]) := by
  have hll := hl.lt
  refine wfn (lk := []) rfl rfl (fnW_way (q45 _ _ z (ints l) e x _) ?_)
  rcases blk_find (F := F) (d := d45) (lk := []) (p := [1,0,1,0,0]) (p0 := [1,0,1]) (by kernel_rfl) (n := l.length) (id := 0) (st := fun i => [(0, iS z l e), (1, iI x), (7, iI l.length), (8, iI i)]) (q := fun i => gi l i == x) (rt := fun i => [(4, iI i)]) (e := [(0, iS z l e), (1, iI x), (7, iI l.length), (8, iI l.length)])
    (fun i hi hq => wpQ_way (q45_l0a _ _ z (ints l) e x _ i _) (by simp at hq; simp [-getElem?_pos, wr1 hi (by omega), hi, Go.Ab.ints_at hi, hq, Ne.symm hq]))
    (fun i hi hq => wpQ_way (q45_l0a _ _ z (ints l) e x _ i _) (by simp at hq; simp [-getElem?_pos, hi, Go.Ab.ints_at hi, hq]))
    (wpQ_way (q45_l0a _ _ z (ints l) e x _ l.length _) (by simp)) 0 (Nat.zero_le _) with ⟨h3, h4⟩ | ⟨j, h3, h4, h5, h6, h7⟩
  · have := h3 r (Nat.zero_le _) hr
    simp [h1] at this
  · have hj : j = r := by
      by_cases e1 : j < r
      · have := h2 j e1; simp at h5; exact absurd h5 this
      · by_cases e2 : r < j
        · have := h6 r (Nat.zero_le _) e2; simp [h1] at this
        · omega
    subst hj
    simp only [Int.natCast_zero] at h7
    simp [ints_len, h7]
theorem ints_set (l : List Int) (i : Nat) (x : Int) : (ints l).set i (.int .i64 x) = ints (l.set i x) := by simp [ints, List.map_set]
theorem rws_set (l : List Row) (i : Nat) (r : Row) : (rws l).set i (.sl 1 r.z (ints r.l) r.e) = rws (l.set i r) := by simp [rws, List.map_set, Row.d]
theorem rws_take (l : List Row) (i : Nat) : (rws l).take i = rws (l.take i) := by simp [rws, List.map_take]
/-- What a table is made of. -/
structure TabIn (zs : Bool) (sl : List Int) (fs : List Row) : Prop where
  len : Len sl
  most : fs.length * 24 ≤ 140737488351232
  rows : ∀ r ∈ fs, Len r.l ∧ NilOk r
  nil : zs = true → sl = []
theorem tabIn_r1 {zs : Bool} {sl : List Int} {fs : List Row} (t : TabIn zs sl fs) : ∀ r ∈ fs, Len r.l := fun r hr => (t.rows r hr).1
section
variable {zs zf z z' : Bool} {sl a : List Int} {fs : List Row} {g : List Sym} {e e' es ef : List D}
theorem w_put_no (T : TabIn zs sl fs) (h : (tblB g sl (fl fs) && factB g a) = false) : C 21 [iG z g e, iT zs sl es zf fs ef, iS z' a e'] = some (.tup [.agg [.own true 3 1 [], .own true 23 1 []], iB false, iI 1100], [iG z g e, iT zs sl es zf fs ef, iS z' a e']) := by
  refine wfn (lk := []) rfl rfl (fnW_way (q21 _ _ z (syms g) e zs (ints sl) es zf (rws fs) ef z' (ints a) e' _) ?_)
  have h1 := w_has zs zf es ef T.len T.most (tabIn_r1 T) z z' g e e' a
  rw [h] at h1
  simp [-Bool.exists_bool, h1]
theorem w_cut_no (T : TabIn zs sl fs) (h : (tblB g sl (fl fs) && factB g a) = false) : C 23 [iG z g e, iT zs sl es zf fs ef, iS z' a e'] = some (.tup [.agg [.own true 3 1 [], .d (.sl 1 true [] [])], iB false, iI 1100], [iG z g e, iT zs sl es zf fs ef, iS z' a e']) := by
  refine wfn (lk := []) rfl rfl (fnW_way (q23 _ _ z (syms g) e zs (ints sl) es zf (rws fs) ef z' (ints a) e' _) ?_)
  have h1 := w_has zs zf es ef T.len T.most (tabIn_r1 T) z z' g e e' a
  rw [h] at h1
  simp [-Bool.exists_bool, h1]
theorem has_in (T : TabIn zs sl fs) (t : TblOk g sl (fl fs)) (hf : factB g a = true) : C 12 [iG z g e, iT zs sl es zf fs ef, iS z' a e'] = some (.tup [iB (decide (a ∈ fl fs)), iI 0], [iG z g e, iT zs sl es zf fs ef, iS z' a e']) := by
  have h1 := w_has zs zf es ef T.len T.most (tabIn_r1 T) z z' g e e' a
  rw [tblB_ok.2 t, hf] at h1
  simp only [Bool.and_self, Bool.true_and, if_true, t.has a] at h1
  exact h1
theorem w_put_is (T : TabIn zs sl fs) (t : TblOk g sl (fl fs)) (hf : factB g a = true) (hm : a ∈ fl fs) : C 21 [iG z g e, iT zs sl es zf fs ef, iS z' a e'] = some (.tup [.agg [.own zs 3 1 (ints sl), .own fs.isEmpty 23 1 (rws (fs.map bare))], iB false, iI 0], [iG z g e, iT zs sl es zf fs ef, iS z' a e']) := by
  refine wfn (lk := []) rfl rfl (fnW_way (q21 _ _ z (syms g) e zs (ints sl) es zf (rws fs) ef z' (ints a) e' _) ?_)
  have h1 := has_in (z := z) (z' := z') (e := e) (e' := e') (zf := zf) (es := es) (ef := ef) T t hf
  have h2 := w_copied T.len T.most T.rows T.nil zf es ef
  simp only [hm, decide_true] at h1
  simp [-Bool.exists_bool, h1, h2]
theorem w_cut_not (T : TabIn zs sl fs) (t : TblOk g sl (fl fs)) (hf : factB g a = true) (hm : a ∉ fl fs) : C 23 [iG z g e, iT zs sl es zf fs ef, iS z' a e'] = some (.tup [.agg [.own zs 3 1 (ints sl), .own fs.isEmpty 23 1 (rws (fs.map bare))], iB false, iI 0], [iG z g e, iT zs sl es zf fs ef, iS z' a e']) := by
  refine wfn (lk := []) rfl rfl (fnW_way (q23 _ _ z (syms g) e zs (ints sl) es zf (rws fs) ef z' (ints a) e' _) ?_)
  have h1 := has_in (z := z) (z' := z') (e := e) (e' := e') (zf := zf) (es := es) (ef := ef) T t hf
  have h2 := w_copied T.len T.most T.rows T.nil zf es ef
  simp only [hm, decide_false] at h1
  simp [-Bool.exists_bool, h1, h2]
theorem w_put_full (T : TabIn zs sl fs) (t : TblOk g sl (fl fs)) (hf : factB g a = true) (hm : a ∉ fl fs) (hl : fs.length = 24) : C 21 [iG z g e, iT zs sl es zf fs ef, iS z' a e'] = some (.tup [.agg [.own true 3 1 [], .own true 23 1 []], iB false, iI 1101], [iG z g e, iT zs sl es zf fs ef, iS z' a e']) := by
  refine wfn (lk := []) rfl rfl (fnW_way (q21 _ _ z (syms g) e zs (ints sl) es zf (rws fs) ef z' (ints a) e' _) ?_)
  have h1 := has_in (z := z) (z' := z') (e := e) (e' := e') (zf := zf) (es := es) (ef := ef) T t hf
  simp only [hm, decide_false] at h1
  simp [-Bool.exists_bool, h1, rws_len, hl]
/-- The slot that a fact gets. -/
def freeM (sl a : List Int) : Nat := probe (hashM a).toNat (freeF sl (hashM a).toNat 32 0)
theorem freeM_is (t : TblOk g sl (fl fs)) (a : List Int) : ∃ m, m < 32 ∧ freeM sl a = probe (hashM a).toNat m ∧ freeF sl (hashM a).toNat 32 0 = m ∧ gi sl (probe (hashM a).toNat m) < 0 ∧ ∀ m', m' < m → 0 ≤ gi sl (probe (hashM a).toNat m') := by
  obtain ⟨m, h1, h2⟩ := t.free (hashM a).toNat
  obtain ⟨i1, i2, i3, i4⟩ := freeF_is sl (hashM a).toNat 32 0 ⟨m, by omega, by omega, h2⟩
  exact ⟨_, by omega, rfl, rfl, i3, fun m' hm' => i4 m' (by omega) hm'⟩
theorem w_put_new (T : TabIn zs sl fs) (t : TblOk g sl (fl fs)) (hf : factB g a = true) (hm : a ∉ fl fs) (hl : fs.length < 24) (hz' : z' = true → a = []) : C 21 [iG z g e, iT zs sl es zf fs ef, iS z' a e'] = some (.tup [.agg [.own zs 3 1 (ints (sl.set (freeM sl a) fs.length)), .own false 23 1 (rws (fs.map bare ++ [⟨z', a, []⟩]))], iB true, iI 0], [iG z g e, iT zs sl es zf fs ef, iS z' a e']) := by
  refine wfn (lk := []) rfl rfl (fnW_way (q21 _ _ z (syms g) e zs (ints sl) es zf (rws fs) ef z' (ints a) e' _) ?_)
  have h1 := has_in (z := z) (z' := z') (e := e) (e' := e') (zf := zf) (es := es) (ef := ef) T t hf
  have h2 := w_copied T.len T.most T.rows T.nil zf es ef
  have hsm := fact_small hf
  have h3 := w_clone hsm.2 hz' e'
  have h4 := w_hash hsm.2 hsm.1 z' e'
  have hh := hashM_lt a
  obtain ⟨m, m1, m2, m3, m4, m5⟩ := freeM_is t a
  have h5 := fun x hx => blk_fun (F := F) (d := d21) (lk := []) (p := [1,1,1,1,1,1,0,0,0]) (p0 := [1,1,1,1,1,1,0]) (id := 1) (by kernel_rfl) (st := fun (j : Nat) => [(6, .ptr 26 0 [.own true 3 1 [], .own true 23 1 []]), (11, .ptr 26 0 [.own zs 3 1 (ints sl), .own false 23 1 (rws (fs.map bare ++ [⟨z', a, []⟩]))]), (12, iI (probe (hashM a).toNat j))]) (I := fun j => j ≤ m) (μ := fun j => m - j)
    (res := fun _ => .norm [(6, .ptr 26 0 [.own true 3 1 [], .own true 23 1 []]), (11, .ptr 26 0 [.own zs 3 1 (ints sl), .own false 23 1 (rws (fs.map bare ++ [⟨z', a, []⟩]))]), (12, iI (probe (hashM a).toNat m))])
    (fun j hj => by
      have hp := probe_lt32 (hashM a).toNat j
      have hat := Go.Ab.ints_at (l := sl) (i := probe (hashM a).toNat j) (by rw [t.len]; exact hp)
      by_cases hjm : j < m
      · have h0 := m5 j hjm
        refine .go (j + 1) (wpQ_way (q21_l1a _ _ _ _ _ _ zs (ints sl) _ _ (probe (hashM a).toNat j) _) ?_) hjm (by omega) rfl
        have hw : Int.tmod (IntKind.wrap .i64 ((probe (hashM a).toNat j : Int) + 1)) 32 = ((probe (hashM a).toNat (j + 1) : Nat) : Int) := by
          rw [← probe_step, wr _ (by omega) (by omega), Int.tmod_eq_emod_of_nonneg (by omega)]; omega
        simp [-Bool.exists_bool, -getElem?_pos, -Int.natCast_add, hat, h0, hw]
      · have e1 : j = m := by omega
        subst e1
        refine .stop (.exit 1 [(6, .ptr 26 0 [.own true 3 1 [], .own true 23 1 []]), (11, .ptr 26 0 [.own zs 3 1 (ints sl), .own false 23 1 (rws (fs.map bare ++ [⟨z', a, []⟩]))]), (12, iI (probe (hashM a).toNat j))]) (wpQ_way (q21_l1a _ _ _ _ _ _ zs (ints sl) _ _ (probe (hashM a).toNat j) _) ?_) rfl rfl
        have m4' : ¬ 0 ≤ gi sl (probe (hashM a).toNat j) := by omega
        simp [-Bool.exists_bool, -getElem?_pos, hat, m4, m4']) x hx
  have h6 := h5 0 (Nat.zero_le _)
  have hp0 : Int.tmod (hashM a) 32 = ((probe (hashM a).toNat 0 : Nat) : Int) := by
    rw [Int.tmod_eq_emod_of_nonneg hh.1]; unfold probe; omega
  have hp := probe_lt32 (hashM a).toNat m
  have hat := Go.Ab.ints_at (l := sl) (i := probe (hashM a).toNat m) (by rw [t.len]; exact hp)
  have hl' : ¬ (fs.length : Int) = 24 := by omega
  have hlen : (rws (fs.map bare)).length = fs.length := by rw [rws_len, List.length_map]
  have hlen2 : (rws (fs.map bare ++ [⟨z', a, []⟩])).length = fs.length + 1 := by rw [rws_len, List.length_append, List.length_map]; rfl
  have happ : rws (fs.map bare) ++ [D.sl 1 z' (ints a) []] = rws (fs.map bare ++ [⟨z', a, []⟩]) := by rw [rws_append]; rfl
  have hw : IntKind.wrap .i64 (((fs.length + 1 : Nat) : Int) - 1) = (fs.length : Int) := by rw [wr _ (by omega) (by omega)]; omega
  have hb1 : fs.length + 1 ≤ 9223372036854775807 := by omega
  have hb2 : (fs.length + 1) * 24 ≤ 140737488355328 := by omega
  simp only [hm, decide_false] at h1
  simp [-Bool.exists_bool, -getElem?_pos, -Int.natCast_add, -List.map_append, h1, h2, h3, h4, rws_len, hl', hlen, hlen2, happ, hp0, h6, hat, hw, ints_set, hb1, hb2, m2]
  omega
end
/-- The rows that are left. -/
def outR (fs : List Row) (p : Nat) : List Row := ((fs.map bare).set p ((fs.map bare).getD (fs.length - 1) ⟨false, [], []⟩)).take (fs.length - 1)
theorem fl_outR (fs : List Row) {p : Nat} (hp : p < fs.length) : fl (outR fs p) = outF (fl fs) p := by
  have h1 : fs.length - 1 < fs.length := by omega
  simp [outR, outF, fl, List.map_take, List.map_set, h1, bare]
  rfl
def cutS (sl : List Int) (n p q r : Nat) : List Int := if p = n - 1 then sl.set q (-2) else (sl.set q (-2)).set r p
section
variable {zs zf z z' : Bool} {sl a : List Int} {fs : List Row} {g : List Sym} {e e' es ef : List D}
theorem rows_bare (h : ∀ r ∈ fs, Len r.l ∧ NilOk r) : ∀ r ∈ fs.map bare, Len r.l ∧ NilOk r := by
  intro r hr
  obtain ⟨x, hx, rfl⟩ := List.mem_map.1 hr
  exact h x hx
theorem rows_outR (h : ∀ r ∈ fs, Len r.l ∧ NilOk r) {p : Nat} (hp : p < fs.length) : ∀ r ∈ outR fs p, Len r.l ∧ NilOk r := by
  intro r hr
  have h1 := List.mem_of_mem_take hr
  rcases List.mem_or_eq_of_mem_set h1 with h2 | h2
  · exact rows_bare h r h2
  · have h3 : fs.length - 1 < (fs.map bare).length := by rw [List.length_map]; omega
    rw [List.getD_eq_getElem?_getD, List.getElem?_eq_getElem h3] at h2
    subst h2
    exact rows_bare h _ (List.getElem_mem h3)
theorem cutS_tbl (t : TblOk g sl (fl fs)) {p q r : Nat} (hp : p < fs.length) (hq : q < 32) (hr : r < 32) (gq : gi sl q = p) (gr : gi sl r = ((fs.length - 1 : Nat) : Int)) : TblOk g (cutS sl fs.length p q r) (outF (fl fs) p) := by
  have hlen := t.len
  refine cut_tbl t (p := p) (q := q) (r := r) (by rw [fl_len]; exact hp) hq hr gq (by rw [fl_len]; exact gr) (by unfold cutS; split <;> simp [hlen]) (by rw [outF_len, fl_len]) (fun i hi => ?_) (fun k hk => outF_at (by rw [fl_len]; exact hp) hk)
  rw [fl_len]
  have s1 : ∀ j, gi (sl.set q (-2)) j = if q = j then -2 else gi sl j := fun j => gi_set _ _ (by omega)
  unfold cutS
  by_cases e1 : p = fs.length - 1
  · rw [if_pos e1, s1]
    have n1 : ¬ (p ≠ fs.length - 1 ∧ i = r) := fun h => h.1 e1
    rw [if_neg n1]
    by_cases e2 : q = i
    · rw [if_pos e2, if_pos e2.symm]
    · rw [if_neg e2, if_neg (fun h => e2 h.symm)]
  · rw [if_neg e1, gi_set _ _ (by simp; omega), s1]
    by_cases e3 : r = i
    · subst e3; simp [e1]
    · have e4 : ¬ i = r := fun h => e3 h.symm
      by_cases e2 : q = i
      · subst e2; simp [e3, e4]
      · have e5 : ¬ i = q := fun h => e2 h.symm
        simp [e3, e4, e2, e5]
theorem w_cut_yes (T : TabIn zs sl fs) (t : TblOk g sl (fl fs)) (hf : factB g a = true) {p : Nat} (hm : (fl fs)[p]? = some a) : ∃ q r, q < 32 ∧ r < 32 ∧ gi sl q = p ∧ gi sl r = ((fs.length - 1 : Nat) : Int) ∧ ∀ z z' zf e e' es ef, C 23 [iG z g e, iT zs sl es zf fs ef, iS z' a e'] = some (.tup [.agg [.own zs 3 1 (ints (cutS sl fs.length p q r)), .d (.sl 1 false (rws (outR fs p)) [])], iB true, iI 0], [iG z g e, iT zs sl es zf fs ef, iS z' a e']) := by
  have hmem : a ∈ fl fs := List.mem_of_getElem? hm
  have hpl : p < fs.length := by have := lt_at hm; rwa [fl_len] at this
  obtain ⟨m, m1, m2, m3⟩ := t.slot hm
  have hq := probe_lt32 (hashM a).toNat m
  generalize probe (hashM a).toNat m = q at m2 m3 hq
  obtain ⟨b, hb⟩ := at_lt (l := fl fs) (i := fs.length - 1) (by rw [fl_len]; omega)
  obtain ⟨mb, b1, b2, b3⟩ := t.slot hb
  have hr := probe_lt32 (hashM b).toNat mb
  generalize probe (hashM b).toNat mb = r at b2 b3 hr
  refine ⟨q, r, hq, hr, m3, b3, fun z z' zf e e' es ef => ?_⟩
  refine wfn (lk := []) rfl rfl (fnW_way (q23 _ _ z (syms g) e zs (ints sl) es zf (rws fs) ef z' (ints a) e' _) ?_)
  have h1 := has_in (z := z) (z' := z') (e := e) (e' := e') (zf := zf) (es := es) (ef := ef) T t hf
  have h2 := w_copied T.len T.most T.rows T.nil zf es ef
  have hsm := fact_small hf
  have hmost := t.most
  rw [fl_len] at hmost
  have hlt : ∀ x ∈ sl, x < (fs.map bare).length := fun x hx => by
    have := t.rng x hx
    rw [fl_len] at this
    rw [List.length_map]
    omega
  have h3 := w_slot zs false [] [] (sl := sl) (fs := fs.map bare) hsm.2 hsm.1 t.len hlt (fun r hr => (rows_bare T.rows r hr).1) z' e'
  rw [fl_bare, m2] at h3
  have hne : fs.isEmpty = false := by cases fs with
    | nil => simp at hpl
    | cons _ _ => rfl
  rw [hne] at h2
  have hlen : (rws (fs.map bare)).length = fs.length := by rw [rws_len, List.length_map]
  have hw : IntKind.wrap .i64 ((fs.length : Int) - 1) = ((fs.length - 1 : Nat) : Int) := by rw [wr _ (by omega) (by omega)]; omega
  have hat := Go.Ab.ints_at (l := sl) (i := q) (by rw [t.len]; exact hq)
  simp only [hmem, decide_true] at h1
  by_cases hpe : p = fs.length - 1
  · have hpe' : ((p : Nat) : Int) = ((fs.length - 1 : Nat) : Int) := by omega
    have hle : fs.length - 1 ≤ fs.length := by omega
    have hle' : ((fs.length - 1 : Nat) : Int) ≤ (fs.length : Int) := by omega
    have ht : (rws (fs.map bare)).take (fs.length - 1) = rws (outR fs p) := by
      rw [rws_take]; congr 1
      unfold outR
      refine List.ext_getElem? fun i => ?_
      simp only [List.getElem?_take, List.getElem?_set]
      split
      · rw [if_neg (by omega)]
      · rfl
    simp [-Bool.exists_bool, -getElem?_pos, -Int.natCast_add, -List.map_append, h1, h2, h3, hat, m3, hlen, hw, hpe', hle', ht, cutS, hpe, ints_set]
  · have hqr : ¬ q = r := fun e => by subst e; rw [m3] at b3; omega
    have g1 : ∀ j, gi (sl.set q (-2)) j = if q = j then -2 else gi sl j := fun j => gi_set _ _ (by rw [t.len]; exact hq)
    have hl1 : (sl.set q (-2)).length = 32 := by rw [List.length_set]; exact t.len
    have h45 := w_index (l := sl.set q (-2)) (r := r) (x := ((fs.length - 1 : Nat) : Int)) (by unfold Len; omega) (by omega) (by rw [g1, if_neg hqr, b3]) (fun i hi he => by
      rw [g1] at he
      split at he
      · omega
      · have := t.uniq (i := i) (j := r) (by omega) hr (by rw [he]; omega) (by rw [he, b3])
        omega) zs []
    have hat2 := Go.Ab.ints_at (l := sl.set q (-2)) (i := r) (by omega)
    obtain ⟨x, hx⟩ := at_lt (l := fs) (i := fs.length - 1) (by omega)
    obtain ⟨y, hy⟩ := at_lt hpl
    have hxb : (fs.map bare)[fs.length - 1]? = some (bare x) := by rw [List.getElem?_map, hx]; rfl
    have hyb : (fs.map bare)[p]? = some (bare y) := by rw [List.getElem?_map, hy]; rfl
    have hx2 := rws_at hxb
    have hy2 := rws_at hyb
    have hpe' : ¬ ((p : Nat) : Int) = ((fs.length - 1 : Nat) : Int) := by omega
    have hle' : ((fs.length - 1 : Nat) : Int) ≤ (fs.length : Int) := by omega
    have ht : ((rws (fs.map bare)).set p (.sl 1 (bare x).z (ints (bare x).l) (bare x).e)).take (fs.length - 1) = rws (outR fs p) := by
      rw [rws_set, rws_take]; congr 1
      unfold outR
      rw [List.getD_eq_getElem?_getD, hxb]; rfl
    simp [-Bool.exists_bool, -getElem?_pos, -Int.natCast_add, -List.map_append, h1, h2, h3, hat, m3, hlen, hw, hpe', hpe, h45, hat2, hx2, hy2, hle', ht, cutS, ints_set]
end
end Go.Proofs.YtckhlalpnginjaaDoor.Ab

/- Put in and taken out again; spoilt tables: for every input the laws return true. No condition. -/
set_option linter.unusedVariables false
set_option linter.unusedSimpArgs false
set_option maxRecDepth 100000
namespace Go.Proofs.YtckhlalpnginjaaDoor.Ab
open Go Go.Ab Go.Qu Go.Proofs
attribute [local simp] and_assoc
theorem good_ints' {n : Nat} {x : D} (h : Go.Ab.Good Tryd.prog (n + 2) 23 x) : ∃ z l, x = .sl 1 z (ints l) [] ∧ Len l ∧ (z = true → l = []) := by
  obtain ⟨z, l, rfl, hl⟩ := good_ints h
  refine ⟨z, l, rfl, hl, fun hz => ?_⟩
  unfold Go.Ab.Good at h
  rw [Tryd.underlying23] at h
  obtain ⟨z', xs, he, h1, h2, h3⟩ := h
  simp only [D.sl.injEq] at he
  obtain ⟨_, rfl, rfl, _⟩ := he
  have h4 := h3 hz
  have := congrArg List.length h4
  rw [ints_len] at this
  exact List.length_eq_zero_iff.1 this
theorem good_rows' {n : Nat} {x : D} (h : Go.Ab.Good Tryd.prog (n + 3) 24 x) : ∃ z rs, x = .sl 1 z (rws rs) [] ∧ rs.length * 24 ≤ 140737488351232 ∧ (∀ r ∈ rs, Len r.l ∧ NilOk r) ∧ (z = true → rs = []) := by
  unfold Go.Ab.Good at h
  rw [Tryd.underlying24] at h
  obtain ⟨z, xs, rfl, h1, h2, h3⟩ := h
  have hc : Tryd.prog.cellsOf 23 = 1 := by kernel_rfl
  have hb : Tryd.prog.bytesOf 23 = 24 := by kernel_rfl
  rw [hb] at h1
  rw [hc]
  obtain ⟨rs, rfl, h4⟩ := all_map (f := Row.d) (Q := fun r => Len r.l ∧ NilOk r) (fun y hy => by obtain ⟨z, l, h, hl, hz⟩ := good_ints' (h2 y hy); exact ⟨⟨z, l, []⟩, h, hl, hz⟩)
  rw [List.length_map] at h1
  exact ⟨z, rs, rfl, by simpa [reachBytes] using h1, h4, fun hz => List.map_eq_nil_iff.1 (h3 hz)⟩
theorem good_table' {n : Nat} {x : D} (h : Go.Ab.Good Tryd.prog (n + 4) 26 x) : ∃ zs sl zf fs, x = .agg [.sl 1 zs (ints sl) [], .sl 1 zf (rws fs) []] ∧ TabIn zs sl fs := by
  unfold Go.Ab.Good at h
  rw [Tryd.underlying26] at h
  obtain ⟨ys, rfl, y0, r0, rfl, h0, y1, r1, rfl, h1, rfl⟩ := h
  obtain ⟨zs, sl, rfl, hsl, hz⟩ := good_ints' h0
  obtain ⟨zf, fs, rfl, hfs, hr, _⟩ := good_rows' h1
  exact ⟨zs, sl, zf, fs, rfl, ⟨hsl, hfs, hr, hz⟩⟩
theorem tabIn_put {zs z' : Bool} {sl a : List Int} {fs : List Row} (T : TabIn zs sl fs) (h32 : sl.length = 32) (hl : fs.length < 24) (ha : Len a) (hz' : z' = true → a = []) (i : Nat) (x : Int) : TabIn zs (sl.set i x) (fs.map bare ++ [⟨z', a, []⟩]) := by
  refine ⟨by unfold Len; rw [List.length_set, h32]; decide, by rw [List.length_append, List.length_map]; simp; omega, fun r hr => ?_, fun hz => by rw [T.nil hz] at h32; simp at h32⟩
  rcases List.mem_append.1 hr with hr | hr
  · exact rows_bare T.rows r hr
  · simp at hr; subst hr; exact ⟨ha, hz'⟩
theorem tabIn_cut {zs : Bool} {sl : List Int} {fs : List Row} (T : TabIn zs sl fs) (h32 : sl.length = 32) {p : Nat} (hp : p < fs.length) {sl' : List Int} (hsl : sl'.length = 32) : TabIn zs sl' (outR fs p) := by
  have := T.most
  refine ⟨by unfold Len; omega, ?_, rows_outR T.rows hp, fun hz => by rw [T.nil hz] at h32; simp at h32⟩
  unfold outR
  rw [List.length_take, List.length_set, List.length_map]; omega
theorem cutS_len {sl : List Int} (h : sl.length = 32) (n p q r : Nat) : (cutS sl n p q r).length = 32 := by unfold cutS; split <;> simp [h]
section
variable {zs zf z z' : Bool} {sl a : List Int} {fs : List Row} {g : List Sym} {e e' es ef : List D}
theorem law_back (T : TabIn zs sl fs) (ha : Len a) (hz' : z' = true → a = []) : C 6 [iG z g e, iT zs sl es zf fs ef, iS z' a e'] = some (iB true, [iG z g e, iT zs sl es zf fs ef, iS z' a e']) := by
  refine wfn (lk := []) rfl rfl (fnW_way (q6 _ _ z (syms g) e zs (ints sl) es zf (rws fs) ef z' (ints a) e' _) ?_)
  cases hB : (tblB g sl (fl fs) && factB g a)
  · have h1 := w_put_no (z := z) (z' := z') (e := e) (e' := e') (zf := zf) (es := es) (ef := ef) T hB
    simp [-Bool.exists_bool, w_awake, w_num, h1]
  simp only [Bool.and_eq_true] at hB
  obtain ⟨ht, hf⟩ := hB
  have t := tblB_ok.1 ht
  by_cases hm : a ∈ fl fs
  · have h1 := w_put_is (z := z) (z' := z') (e := e) (e' := e') (zf := zf) (es := es) (ef := ef) T t hf hm
    simp [-Bool.exists_bool, w_awake, w_num, h1]
  have hmost := t.most
  rw [fl_len] at hmost
  by_cases hl : fs.length = 24
  · have h1 := w_put_full (z := z) (z' := z') (e := e) (e' := e') (zf := zf) (es := es) (ef := ef) T t hf hm hl
    simp [-Bool.exists_bool, w_awake, w_num, h1]
  have hl2 : fs.length < 24 := by omega
  have h1 := w_put_new (z := z) (z' := z') (e := e) (e' := e') (zf := zf) (es := es) (ef := ef) T t hf hm hl2 hz'
  obtain ⟨m, m1, m2, m3, m4, m5⟩ := freeM_is t a
  have t1 := put_tbl t hf hm (by rw [fl_len]; exact hl2) m1 m4 m5
  rw [← m2, fl_len] at t1
  have T1 := tabIn_put T (z' := z') t.len hl2 ha hz' (freeM sl a) fs.length
  have hfl : fl (fs.map bare ++ [(⟨z', a, []⟩ : Row)]) = fl fs ++ [a] := by rw [fl, List.map_append, ← fl, fl_bare]; rfl
  have hlen1 : (fs.map bare ++ [(⟨z', a, []⟩ : Row)]).length = fs.length + 1 := by rw [List.length_append, List.length_map]; rfl
  rw [← hfl] at t1
  generalize hsl1 : sl.set (freeM sl a) (fs.length : Int) = sl1 at h1 t1 T1
  generalize hfs1 : fs.map bare ++ [(⟨z', a, []⟩ : Row)] = fs1 at h1 t1 T1 hfl hlen1
  have hp : (fl fs1)[fs.length]? = some a := by rw [hfl, ← fl_len fs, List.getElem?_append_right (Nat.le_refl _)]; simp
  have h2 := has_in (z := z) (z' := z') (e := e) (e' := e') (zf := false) (es := []) (ef := []) T1 t1 hf
  simp only [List.mem_of_getElem? hp, decide_true] at h2
  obtain ⟨q, r, hq, hr, gq, gr, hcut⟩ := w_cut_yes T1 t1 hf hp
  have h3 := hcut z z' false e e' [] []
  have h4 := w_put_is (z := z) (z' := z') (e := e) (e' := e') (zf := false) (es := []) (ef := []) T1 t1 hf (List.mem_of_getElem? hp)
  have hpl : fs.length < fs1.length := by omega
  have t2 := cutS_tbl t1 hpl hq hr gq gr
  have T2 := tabIn_cut T1 t1.len hpl (cutS_len t1.len fs1.length fs.length q r)
  rw [← fl_outR fs1 hpl] at t2
  have hout : fl (outR fs1 fs.length) = fl fs := by rw [fl_outR fs1 hpl, hfl, ← fl_len fs, outF_last]
  generalize cutS sl1 fs1.length fs.length q r = sl2 at h3 t2 T2
  generalize outR fs1 fs.length = fs2 at h3 t2 T2 hout
  have h5 := w_samerows T2.most (tabIn_r1 T2) fs false zf [] ef
  have hout' : fs2.map (·.l) = fs.map (·.l) := hout
  simp only [hout', decide_true] at h5
  have h6 := w_tmay zs false [] [] T1.len T1.most (tabIn_r1 T1) z g e
  rw [tblB_ok.2 t1] at h6
  have h7 := w_tmay zs false [] [] T2.len T2.most (tabIn_r1 T2) z g e
  rw [tblB_ok.2 t2] at h7
  have hne : fs1.isEmpty = false := by cases fs1 with
    | nil => simp at hpl
    | cons _ _ => rfl
  rw [hne] at h4
  have h8 := w_sametable (sl := sl1) (fs := fs1.map bare) zs false [] [] T1.len (by rw [List.length_map]; exact T1.most) (fun r hr => (rows_bare T1.rows r hr).1) sl1 fs1 zs false [] []
  simp only [fl_bare, and_self, decide_true] at h8
  simp [-Bool.exists_bool, w_awake, w_num, h1, h2, h3, h4, h5, h6, h7, h8]
end
theorem call_back (y0 y1 y2 : D) (g0 : Go.Ab.Good Tryd.prog 12 22 y0) (g1 : Go.Ab.Good Tryd.prog 12 26 y1) (g2 : Go.Ab.Good Tryd.prog 12 23 y2) : ∃ outs, C 6 [.d y0, .d y1, .d y2] = some (iB true, outs) := by
  obtain ⟨z, g, rfl⟩ := good_sig g0
  obtain ⟨zs, sl, zf, fs, rfl, T⟩ := good_table' g1
  obtain ⟨z', a, rfl, ha, hz⟩ := good_ints' g2
  exact ⟨_, law_back T ha hz⟩
end Go.Proofs.YtckhlalpnginjaaDoor.Ab

/- Spoilt tables: for every input the law returns true. No condition. -/
set_option linter.unusedVariables false
set_option linter.unusedSimpArgs false
set_option maxRecDepth 100000
namespace Go.Proofs.YtckhlalpnginjaaDoor.Ab
open Go Go.Ab Go.Qu Go.Proofs
attribute [local simp] and_assoc
theorem mod_u (i : Int) {n : Nat} (h0 : 0 < n) (h1 : n ≤ 1000000) : ∃ k : Nat, k < n ∧ Int.tmod (IntKind.wrap .u64 i) (IntKind.wrap .u64 (n : Int)) = (k : Int) := by
  have h2 : 0 ≤ IntKind.wrap .u64 i := by rw [IntKind.wrap_u64]; exact Int.emod_nonneg _ (by decide)
  have h3 : IntKind.wrap .u64 (n : Int) = n := by rw [IntKind.wrap_u64]; exact Int.emod_eq_of_lt (by omega) (by omega)
  rw [h3]
  generalize IntKind.wrap .u64 i = y at h2
  rw [Int.tmod_eq_emod_of_nonneg h2]
  have h4 := Int.emod_nonneg y (show (n : Int) ≠ 0 by omega)
  have h5 := Int.emod_lt_of_pos y (show (0 : Int) < n by omega)
  exact ⟨(y % n).toNat, by omega, by omega⟩
theorem u_pos {n : Nat} (h0 : 0 < n) (h1 : n ≤ 1000000) : ¬ IntKind.wrap .u64 (n : Int) = 0 := by
  rw [IntKind.wrap_u64, Int.emod_eq_of_lt (by omega) (by omega)]; omega
section
variable {zs zf z z' : Bool} {sl a : List Int} {fs : List Row} {g : List Sym} {e e' es ef : List D}
theorem law_spoilt (T : TabIn zs sl fs) (k v : Int) : C 8 [iG z g e, iT zs sl es zf fs ef, iI k, iI v] = some (iB true, [iG z g e, iT zs sl es zf fs ef, iI k, iI v]) := by
  refine wfn (lk := []) rfl rfl (fnW_way (q8 _ _ z (syms g) e zs (ints sl) es zf (rws fs) ef k v _) ?_)
  have h1 := w_tmay zs zf es ef T.len T.most (tabIn_r1 T) z g e
  cases ht : tblB g sl (fl fs)
  · simp [-Bool.exists_bool, w_awake, h1, ht]
  have t := tblB_ok.1 ht
  rw [ht] at h1
  by_cases h0 : fs.length = 0
  · simp [-Bool.exists_bool, w_awake, h1, rws_len, h0]
  have h0' : ¬ (fs.length : Int) = 0 := by omega
  have hmost := t.most
  rw [fl_len] at hmost
  have h2 := w_copytable zs zf es ef T.len T.most (tabIn_r1 T)
  obtain ⟨i, hi, hie⟩ := mod_u k (n := 32) (by decide) (by decide)
  obtain ⟨j, hj, hje⟩ := mod_u v (n := fs.length + 3) (by omega) (by omega)
  have hu1 := u_pos (n := 32) (by decide) (by decide)
  have hu2 := u_pos (n := fs.length + 3) (by omega) (by omega)
  have hie : Int.tmod (IntKind.wrap .u64 k) (IntKind.wrap .u64 32) = (i : Int) := hie
  have hu1 : ¬ IntKind.wrap .u64 32 = 0 := hu1
  have hl1 : (ints sl).length = 32 := by rw [ints_len]; exact t.len
  have hl2 : (rws (fs.map fresh)).length = fs.length := by rw [rws_len, List.length_map]
  have hwi : IntKind.wrap .i64 (i : Int) = i := wr _ (by omega) (by omega)
  have hwj : IntKind.wrap .i64 (IntKind.wrap .i64 (j : Int) - 2) = (j : Int) - 2 := by rw [wr (j : Int) (by omega) (by omega), wr _ (by omega) (by omega)]
  have hwn : IntKind.wrap .i64 ((fs.length : Int) + 3) = ((fs.length + 3 : Nat) : Int) := by rw [wr _ (by omega) (by omega)]; omega
  have hat := Go.Ab.ints_at (l := sl) (i := i) (by rw [t.len]; exact hi)
  by_cases c1 : gi sl i = (j : Int) - 2
  · simp [-Bool.exists_bool, -getElem?_pos, -Int.natCast_add, w_awake, h1, rws_len, h0', h2, hl1, hl2, hie, hje, hu1, hu2, hwi, hwj, hwn, hat, c1]
  by_cases c2 : gi sl i < 0 ∧ (j : Int) - 2 < 0
  · simp [-Bool.exists_bool, -getElem?_pos, -Int.natCast_add, w_awake, h1, rws_len, h0', h2, hl1, hl2, hie, hje, hu1, hu2, hwi, hwj, hwn, hat, c1, c2.1, c2.2]
    intro _ hj2; omega
  have hno := spoilt t hi c1 c2
  obtain ⟨r, hr⟩ := at_lt (l := fs) (i := 0) (by omega)
  have hr2 := rws_at hr
  have T' : Len (sl.set i ((j : Int) - 2)) := by unfold Len; rw [List.length_set, t.len]; decide
  have hfm : (fs.map fresh).length * 24 ≤ 140737488351232 := by rw [List.length_map]; exact T.most
  have hrm : ∀ r ∈ fs.map fresh, Len r.l := fun r hr => by
    obtain ⟨x, hx, rfl⟩ := List.mem_map.1 hr
    exact (tabIn_r1 T) x hx
  have hB : tblB g (sl.set i ((j : Int) - 2)) (fl (fs.map fresh)) = false := by
    rw [fl_fresh]
    cases hc : tblB g (sl.set i ((j : Int) - 2)) (fl fs)
    · rfl
    · exact absurd (tblB_ok.1 hc) hno
  have hne : fs.isEmpty = false := by cases fs with
    | nil => simp at h0
    | cons _ _ => rfl
  rw [hne] at h2
  have h3 := w_has (sl := sl.set i ((j : Int) - 2)) (fs := fs.map fresh) false false [] [] T' hfm hrm z r.z g e r.e r.l
  have h4 := w_tmay (sl := sl.set i ((j : Int) - 2)) (fs := fs.map fresh) false false [] [] T' hfm hrm z g e
  rw [hB] at h3 h4
  by_cases c3 : gi sl i < 0
  · have c4 : ¬ (j : Int) - 2 < 0 := fun h => c2 ⟨c3, h⟩
    simp [-Bool.exists_bool, -getElem?_pos, -Int.natCast_add, w_awake, w_num, h1, rws_len, h0', h2, hl1, hl2, hie, hje, hu1, hu2, hwi, hwj, hwn, hat, c1, c3, c4, hr2, ints_set, h3, h4]
  · simp [-Bool.exists_bool, -getElem?_pos, -Int.natCast_add, w_awake, w_num, h1, rws_len, h0', h2, hl1, hl2, hie, hje, hu1, hu2, hwi, hwj, hwn, hat, c1, c3, hr2, ints_set, h3, h4]
end
theorem call_spoilt (y0 y1 y2 y3 : D) (g0 : Go.Ab.Good Tryd.prog 12 22 y0) (g1 : Go.Ab.Good Tryd.prog 12 26 y1) (g2 : Go.Ab.Good Tryd.prog 12 3 y2) (g3 : Go.Ab.Good Tryd.prog 12 3 y3) : ∃ outs, C 8 [.d y0, .d y1, .d y2, .d y3] = some (iB true, outs) := by
  obtain ⟨z, g, rfl⟩ := good_sig g0
  obtain ⟨zs, sl, zf, fs, rfl, T⟩ := good_table' g1
  obtain ⟨k, rfl, _⟩ := good_int g2
  obtain ⟨v, rfl, _⟩ := good_int g3
  exact ⟨_, law_spoilt T k v⟩
end Go.Proofs.YtckhlalpnginjaaDoor.Ab

/- Written by a program of this session (wip/tools/AbSym.lean). Not trusted: Lean checks it. -/
set_option maxRecDepth 100000
set_option linter.unusedVariables false
namespace Go.Proofs.YtckhlalpnginjaaDoor.Ab
open Go Go.Ab Go.Proofs
def L7 : Lps := fun b => match b with
  | 0 => [.ret [(6, .d (.bool))], .norm [(0, .d (.sl 4)), (4, .dbox 26 0 [.sl 1, .sl 1]), (7, .d (.int .i64)), (8, .ptr 26 0 [.own 3 1, .d (.sl 1)]), (11, .d (.int .i64))], .norm [(0, .d (.sl 4)), (4, .dbox 26 0 [.sl 1, .sl 1]), (7, .d (.int .i64)), (8, .ptr 26 0 [.own 3 1, .own 23 1]), (11, .d (.int .i64))]]
  | _ => [.norm []]
theorem q7 (C J) (z1 : Bool) (x2 : List D) (e3 : List D) (z4 : Bool) (x5 : List D) (e6 : List D) (z7 : Bool) (x8 : List D) (e9 : List D) (i10 : Int) (Q) : fnW F C R (L7) J d7 [.d (.sl 4 z1 x2 e3), .d (.agg [.sl 1 z4 x5 e6, .sl 1 z7 x8 e9]), .d (.int .i64 i10)] Q = (∃ w0, C 20 [] = some (IV.d (D.bool w0), []) ∧ condW w0 (∃ w1 w2 w3, C 14 [IV.d (D.sl 4 z1 x2 e3), IV.d (D.agg [D.sl 1 z4 x5 e6, D.sl 1 z7 x8 e9])] = some (IV.d (D.bool w1), [w2, w3]) ∧ condW w1 (condW ((↑(List.length x8) : Int) == 0) (Q (some (IV.d (D.bool true), [IV.d (D.sl 4 z1 x2 e3), IV.d (D.agg [D.sl 1 z4 x5 e6, D.sl 1 z7 x8 e9]), IV.d (D.int IntKind.i64 i10)]))) (condW (!IntKind.wrap IntKind.u64 (↑(List.length x8) : Int) == 0) (condW (decide (0 ≤ IntKind.wrap IntKind.i64 (Int.tmod (IntKind.wrap IntKind.u64 i10) (IntKind.wrap IntKind.u64 (↑(List.length x8) : Int))))) (∃ w4 w5 w6, x8[Int.toNat (IntKind.wrap IntKind.i64 (Int.tmod (IntKind.wrap IntKind.u64 i10) (IntKind.wrap IntKind.u64 (↑(List.length x8) : Int))))]? = some (D.sl 1 w4 w5 w6) ∧ ((∃ w7 w8 w9 w10 w11 w12 w13 w14 w15 w16, C 23 [IV.d (D.sl 4 z1 x2 e3), IV.d (D.agg [D.sl 1 z4 x5 e6, D.sl 1 z7 x8 e9]), IV.d (D.sl 1 w4 w5 w6)] = some (IV.tup [IV.agg [IV.own w7 3 1 w8, IV.d (D.sl 1 w9 w10 w11)], IV.d (D.bool w12), IV.d (D.int IntKind.i64 w13)], [w14, w15, w16]) ∧ condW w12 (∃ w17 w18, C 16 [IV.d (D.int IntKind.i64 w13)] = some (IV.d (D.int IntKind.i64 w17), [w18]) ∧ condW (w17 != 0) (Q (some (IV.d (D.bool false), [IV.d (D.sl 4 z1 x2 e3), IV.d (D.agg [D.sl 1 z4 x5 e6, D.sl 1 z7 x8 e9]), IV.d (D.int IntKind.i64 i10)]))) ((∃ w19, evP F C J d7 [] [1, 1, 1, 1, 1, 1, 0, 1] [(0, IV.d (D.sl 4 z1 x2 e3)), (4, IV.dbox 26 0 [D.sl 1 z4 x5 e6, D.sl 1 z7 x8 e9]), (7, IV.d (D.int IntKind.i64 (IntKind.wrap IntKind.i64 (Int.tmod (IntKind.wrap IntKind.u64 i10) (IntKind.wrap IntKind.u64 (↑(List.length x8) : Int)))))), (8, IV.ptr 26 0 [IV.own w7 3 1 w8, IV.d (D.sl 1 w9 w10 w11)]), (11, IV.d (D.int IntKind.i64 0))] = some (Out.ret [(6, IV.d (D.bool w19))]) ∧ Q (some (IV.d (D.bool w19), [IV.d (D.sl 4 z1 x2 e3), IV.d (D.agg [D.sl 1 z4 x5 e6, D.sl 1 z7 x8 e9]), IV.d (D.int IntKind.i64 i10)]))) ∨ (∃ w20 w21 w22 w23 w24 w25 w26 w27 w28 w29 w30 w31 w32 w33 w34 w35, evP F C J d7 [] [1, 1, 1, 1, 1, 1, 0, 1] [(0, IV.d (D.sl 4 z1 x2 e3)), (4, IV.dbox 26 0 [D.sl 1 z4 x5 e6, D.sl 1 z7 x8 e9]), (7, IV.d (D.int IntKind.i64 (IntKind.wrap IntKind.i64 (Int.tmod (IntKind.wrap IntKind.u64 i10) (IntKind.wrap IntKind.u64 (↑(List.length x8) : Int)))))), (8, IV.ptr 26 0 [IV.own w7 3 1 w8, IV.d (D.sl 1 w9 w10 w11)]), (11, IV.d (D.int IntKind.i64 0))] = some (Out.norm [(0, IV.d (D.sl 4 w20 w21 w22)), (4, IV.dbox 26 0 [D.sl 1 w23 w24 w25, D.sl 1 w26 w27 w28]), (7, IV.d (D.int IntKind.i64 w29)), (8, IV.ptr 26 0 [IV.own w30 3 1 w31, IV.d (D.sl 1 w32 w33 w34)]), (11, IV.d (D.int IntKind.i64 w35))]) ∧ condW ((↑(List.length w33) : Int) == IntKind.wrap IntKind.i64 ((↑(List.length w27) : Int) - 1)) (Q (some (IV.d (D.bool true), [IV.d (D.sl 4 z1 x2 e3), IV.d (D.agg [D.sl 1 z4 x5 e6, D.sl 1 z7 x8 e9]), IV.d (D.int IntKind.i64 i10)]))) (Q (some (IV.d (D.bool false), [IV.d (D.sl 4 z1 x2 e3), IV.d (D.agg [D.sl 1 z4 x5 e6, D.sl 1 z7 x8 e9]), IV.d (D.int IntKind.i64 i10)])))) ∨ ∃ w36 w37 w38 w39 w40 w41 w42 w43 w44 w45 w46 w47 w48 w49 w50, evP F C J d7 [] [1, 1, 1, 1, 1, 1, 0, 1] [(0, IV.d (D.sl 4 z1 x2 e3)), (4, IV.dbox 26 0 [D.sl 1 z4 x5 e6, D.sl 1 z7 x8 e9]), (7, IV.d (D.int IntKind.i64 (IntKind.wrap IntKind.i64 (Int.tmod (IntKind.wrap IntKind.u64 i10) (IntKind.wrap IntKind.u64 (↑(List.length x8) : Int)))))), (8, IV.ptr 26 0 [IV.own w7 3 1 w8, IV.d (D.sl 1 w9 w10 w11)]), (11, IV.d (D.int IntKind.i64 0))] = some (Out.norm [(0, IV.d (D.sl 4 w36 w37 w38)), (4, IV.dbox 26 0 [D.sl 1 w39 w40 w41, D.sl 1 w42 w43 w44]), (7, IV.d (D.int IntKind.i64 w45)), (8, IV.ptr 26 0 [IV.own w46 3 1 w47, IV.own w48 23 1 w49]), (11, IV.d (D.int IntKind.i64 w50))]) ∧ condW ((↑(List.length w49) : Int) == IntKind.wrap IntKind.i64 ((↑(List.length w43) : Int) - 1)) (Q (some (IV.d (D.bool true), [IV.d (D.sl 4 z1 x2 e3), IV.d (D.agg [D.sl 1 z4 x5 e6, D.sl 1 z7 x8 e9]), IV.d (D.int IntKind.i64 i10)]))) (Q (some (IV.d (D.bool false), [IV.d (D.sl 4 z1 x2 e3), IV.d (D.agg [D.sl 1 z4 x5 e6, D.sl 1 z7 x8 e9]), IV.d (D.int IntKind.i64 i10)]))))) (Q (some (IV.d (D.bool false), [IV.d (D.sl 4 z1 x2 e3), IV.d (D.agg [D.sl 1 z4 x5 e6, D.sl 1 z7 x8 e9]), IV.d (D.int IntKind.i64 i10)])))) ∨ ∃ w51 w52 w53 w54 w55 w56 w57 w58 w59, C 23 [IV.d (D.sl 4 z1 x2 e3), IV.d (D.agg [D.sl 1 z4 x5 e6, D.sl 1 z7 x8 e9]), IV.d (D.sl 1 w4 w5 w6)] = some (IV.tup [IV.agg [IV.own w51 3 1 w52, IV.own w53 23 1 w54], IV.d (D.bool w55), IV.d (D.int IntKind.i64 w56)], [w57, w58, w59]) ∧ condW w55 (∃ w60 w61, C 16 [IV.d (D.int IntKind.i64 w56)] = some (IV.d (D.int IntKind.i64 w60), [w61]) ∧ condW (w60 != 0) (Q (some (IV.d (D.bool false), [IV.d (D.sl 4 z1 x2 e3), IV.d (D.agg [D.sl 1 z4 x5 e6, D.sl 1 z7 x8 e9]), IV.d (D.int IntKind.i64 i10)]))) ((∃ w62, evP F C J d7 [] [1, 1, 1, 1, 1, 1, 0, 1] [(0, IV.d (D.sl 4 z1 x2 e3)), (4, IV.dbox 26 0 [D.sl 1 z4 x5 e6, D.sl 1 z7 x8 e9]), (7, IV.d (D.int IntKind.i64 (IntKind.wrap IntKind.i64 (Int.tmod (IntKind.wrap IntKind.u64 i10) (IntKind.wrap IntKind.u64 (↑(List.length x8) : Int)))))), (8, IV.ptr 26 0 [IV.own w51 3 1 w52, IV.own w53 23 1 w54]), (11, IV.d (D.int IntKind.i64 0))] = some (Out.ret [(6, IV.d (D.bool w62))]) ∧ Q (some (IV.d (D.bool w62), [IV.d (D.sl 4 z1 x2 e3), IV.d (D.agg [D.sl 1 z4 x5 e6, D.sl 1 z7 x8 e9]), IV.d (D.int IntKind.i64 i10)]))) ∨ (∃ w63 w64 w65 w66 w67 w68 w69 w70 w71 w72 w73 w74 w75 w76 w77 w78, evP F C J d7 [] [1, 1, 1, 1, 1, 1, 0, 1] [(0, IV.d (D.sl 4 z1 x2 e3)), (4, IV.dbox 26 0 [D.sl 1 z4 x5 e6, D.sl 1 z7 x8 e9]), (7, IV.d (D.int IntKind.i64 (IntKind.wrap IntKind.i64 (Int.tmod (IntKind.wrap IntKind.u64 i10) (IntKind.wrap IntKind.u64 (↑(List.length x8) : Int)))))), (8, IV.ptr 26 0 [IV.own w51 3 1 w52, IV.own w53 23 1 w54]), (11, IV.d (D.int IntKind.i64 0))] = some (Out.norm [(0, IV.d (D.sl 4 w63 w64 w65)), (4, IV.dbox 26 0 [D.sl 1 w66 w67 w68, D.sl 1 w69 w70 w71]), (7, IV.d (D.int IntKind.i64 w72)), (8, IV.ptr 26 0 [IV.own w73 3 1 w74, IV.d (D.sl 1 w75 w76 w77)]), (11, IV.d (D.int IntKind.i64 w78))]) ∧ condW ((↑(List.length w76) : Int) == IntKind.wrap IntKind.i64 ((↑(List.length w70) : Int) - 1)) (Q (some (IV.d (D.bool true), [IV.d (D.sl 4 z1 x2 e3), IV.d (D.agg [D.sl 1 z4 x5 e6, D.sl 1 z7 x8 e9]), IV.d (D.int IntKind.i64 i10)]))) (Q (some (IV.d (D.bool false), [IV.d (D.sl 4 z1 x2 e3), IV.d (D.agg [D.sl 1 z4 x5 e6, D.sl 1 z7 x8 e9]), IV.d (D.int IntKind.i64 i10)])))) ∨ ∃ w79 w80 w81 w82 w83 w84 w85 w86 w87 w88 w89 w90 w91 w92 w93, evP F C J d7 [] [1, 1, 1, 1, 1, 1, 0, 1] [(0, IV.d (D.sl 4 z1 x2 e3)), (4, IV.dbox 26 0 [D.sl 1 z4 x5 e6, D.sl 1 z7 x8 e9]), (7, IV.d (D.int IntKind.i64 (IntKind.wrap IntKind.i64 (Int.tmod (IntKind.wrap IntKind.u64 i10) (IntKind.wrap IntKind.u64 (↑(List.length x8) : Int)))))), (8, IV.ptr 26 0 [IV.own w51 3 1 w52, IV.own w53 23 1 w54]), (11, IV.d (D.int IntKind.i64 0))] = some (Out.norm [(0, IV.d (D.sl 4 w79 w80 w81)), (4, IV.dbox 26 0 [D.sl 1 w82 w83 w84, D.sl 1 w85 w86 w87]), (7, IV.d (D.int IntKind.i64 w88)), (8, IV.ptr 26 0 [IV.own w89 3 1 w90, IV.own w91 23 1 w92]), (11, IV.d (D.int IntKind.i64 w93))]) ∧ condW ((↑(List.length w92) : Int) == IntKind.wrap IntKind.i64 ((↑(List.length w86) : Int) - 1)) (Q (some (IV.d (D.bool true), [IV.d (D.sl 4 z1 x2 e3), IV.d (D.agg [D.sl 1 z4 x5 e6, D.sl 1 z7 x8 e9]), IV.d (D.int IntKind.i64 i10)]))) (Q (some (IV.d (D.bool false), [IV.d (D.sl 4 z1 x2 e3), IV.d (D.agg [D.sl 1 z4 x5 e6, D.sl 1 z7 x8 e9]), IV.d (D.int IntKind.i64 i10)]))))) (Q (some (IV.d (D.bool false), [IV.d (D.sl 4 z1 x2 e3), IV.d (D.agg [D.sl 1 z4 x5 e6, D.sl 1 z7 x8 e9]), IV.d (D.int IntKind.i64 i10)]))))) False) False)) (Q (some (IV.d (D.bool true), [IV.d (D.sl 4 z1 x2 e3), IV.d (D.agg [D.sl 1 z4 x5 e6, D.sl 1 z7 x8 e9]), IV.d (D.int IntKind.i64 i10)])))) (Q (some (IV.d (D.bool false), [IV.d (D.sl 4 z1 x2 e3), IV.d (D.agg [D.sl 1 z4 x5 e6, D.sl 1 z7 x8 e9]), IV.d (D.int IntKind.i64 i10)])))) := by kernel_rfl
theorem q7_l0a (C J) (z1 : Bool) (x2 : List D) (e3 : List D) (z4 : Bool) (x5 : List D) (e6 : List D) (z7 : Bool) (x8 : List D) (e9 : List D) (i10 : Int) (z11 : Bool) (x12 : List D) (z13 : Bool) (x14 : List D) (e15 : List D) (i16 : Int) (Q) : wpQ F C R (L7) J d7 [] [1,1,1,1,1,1,0,1,0,0] [(0, .d (.sl 4 z1 x2 e3)), (4, .dbox 26 0 [.sl 1 z4 x5 e6, .sl 1 z7 x8 e9]), (7, .d (.int .i64 i10)), (8, .ptr 26 0 [.own z11 3 1 x12, .d (.sl 1 z13 x14 e15)]), (11, .d (.int .i64 i16))] Q = (condW (decide (i16 < (↑(List.length x8) : Int))) (condW (decide (0 ≤ i16)) (∃ w0 w1 w2, x8[Int.toNat i16]? = some (D.sl 1 w0 w1 w2) ∧ ∃ w3 w4 w5 w6 w7, C 12 [IV.d (D.sl 4 z1 x2 e3), IV.d (D.agg [D.sl 1 z4 x5 e6, D.sl 1 z7 x8 e9]), IV.d (D.sl 1 w0 w1 w2)] = some (IV.tup [IV.d (D.bool w3), IV.d (D.int IntKind.i64 w4)], [w5, w6, w7]) ∧ condW w3 (condW (decide (0 ≤ i16)) (∃ w8 w9 w10, x8[Int.toNat i16]? = some (D.sl 1 w8 w9 w10) ∧ ∃ w11 w12 w13 w14 w15, C 12 [IV.d (D.sl 4 z1 x2 e3), IV.d (D.agg [D.sl 1 z11 x12 [], D.sl 1 z13 x14 e15]), IV.d (D.sl 1 w8 w9 w10)] = some (IV.tup [IV.d (D.bool w11), IV.d (D.int IntKind.i64 w12)], [w13, w14, w15]) ∧ condW w11 (∃ w16 w17, C 16 [IV.d (D.int IntKind.i64 w4)] = some (IV.d (D.int IntKind.i64 w16), [w17]) ∧ condW (w16 != 0) (Q (Out.ret [(6, IV.d (D.bool false))])) (∃ w18 w19, C 16 [IV.d (D.int IntKind.i64 w12)] = some (IV.d (D.int IntKind.i64 w18), [w19]) ∧ condW (w18 != 0) (Q (Out.ret [(6, IV.d (D.bool false))])) (condW (i16 != i10) (Q (Out.norm [(0, IV.d (D.sl 4 z1 x2 e3)), (4, IV.dbox 26 0 [D.sl 1 z4 x5 e6, D.sl 1 z7 x8 e9]), (7, IV.d (D.int IntKind.i64 i10)), (8, IV.ptr 26 0 [IV.own z11 3 1 x12, IV.d (D.sl 1 z13 x14 e15)]), (11, IV.d (D.int IntKind.i64 (IntKind.wrap IntKind.i64 (i16 + 1))))])) (Q (Out.ret [(6, IV.d (D.bool false))]))))) (∃ w20 w21, C 16 [IV.d (D.int IntKind.i64 w4)] = some (IV.d (D.int IntKind.i64 w20), [w21]) ∧ condW (w20 != 0) (Q (Out.ret [(6, IV.d (D.bool false))])) (∃ w22 w23, C 16 [IV.d (D.int IntKind.i64 w12)] = some (IV.d (D.int IntKind.i64 w22), [w23]) ∧ condW (w22 != 0) (Q (Out.ret [(6, IV.d (D.bool false))])) (condW (i16 != i10) (Q (Out.ret [(6, IV.d (D.bool false))])) (Q (Out.norm [(0, IV.d (D.sl 4 z1 x2 e3)), (4, IV.dbox 26 0 [D.sl 1 z4 x5 e6, D.sl 1 z7 x8 e9]), (7, IV.d (D.int IntKind.i64 i10)), (8, IV.ptr 26 0 [IV.own z11 3 1 x12, IV.d (D.sl 1 z13 x14 e15)]), (11, IV.d (D.int IntKind.i64 (IntKind.wrap IntKind.i64 (i16 + 1))))])))))) False) (condW (decide (0 ≤ i16)) (∃ w24 w25 w26, x8[Int.toNat i16]? = some (D.sl 1 w24 w25 w26) ∧ ∃ w27 w28 w29 w30 w31, C 12 [IV.d (D.sl 4 z1 x2 e3), IV.d (D.agg [D.sl 1 z11 x12 [], D.sl 1 z13 x14 e15]), IV.d (D.sl 1 w24 w25 w26)] = some (IV.tup [IV.d (D.bool w27), IV.d (D.int IntKind.i64 w28)], [w29, w30, w31]) ∧ condW w27 (Q (Out.ret [(6, IV.d (D.bool false))])) (Q (Out.ret [(6, IV.d (D.bool false))]))) False)) False) (Q (Out.exit 0 [(0, IV.d (D.sl 4 z1 x2 e3)), (4, IV.dbox 26 0 [D.sl 1 z4 x5 e6, D.sl 1 z7 x8 e9]), (7, IV.d (D.int IntKind.i64 i10)), (8, IV.ptr 26 0 [IV.own z11 3 1 x12, IV.d (D.sl 1 z13 x14 e15)]), (11, IV.d (D.int IntKind.i64 i16))]))) := by kernel_rfl
theorem q7_l0b (C J) (z1 : Bool) (x2 : List D) (e3 : List D) (z4 : Bool) (x5 : List D) (e6 : List D) (z7 : Bool) (x8 : List D) (e9 : List D) (i10 : Int) (z11 : Bool) (x12 : List D) (z13 : Bool) (x14 : List D) (i15 : Int) (Q) : wpQ F C R (L7) J d7 [] [1,1,1,1,1,1,0,1,0,0] [(0, .d (.sl 4 z1 x2 e3)), (4, .dbox 26 0 [.sl 1 z4 x5 e6, .sl 1 z7 x8 e9]), (7, .d (.int .i64 i10)), (8, .ptr 26 0 [.own z11 3 1 x12, .own z13 23 1 x14]), (11, .d (.int .i64 i15))] Q = (condW (decide (i15 < (↑(List.length x8) : Int))) (condW (decide (0 ≤ i15)) (∃ w0 w1 w2, x8[Int.toNat i15]? = some (D.sl 1 w0 w1 w2) ∧ ∃ w3 w4 w5 w6 w7, C 12 [IV.d (D.sl 4 z1 x2 e3), IV.d (D.agg [D.sl 1 z4 x5 e6, D.sl 1 z7 x8 e9]), IV.d (D.sl 1 w0 w1 w2)] = some (IV.tup [IV.d (D.bool w3), IV.d (D.int IntKind.i64 w4)], [w5, w6, w7]) ∧ condW w3 (condW (decide (0 ≤ i15)) (∃ w8 w9 w10, x8[Int.toNat i15]? = some (D.sl 1 w8 w9 w10) ∧ ∃ w11 w12 w13 w14 w15, C 12 [IV.d (D.sl 4 z1 x2 e3), IV.d (D.agg [D.sl 1 z11 x12 [], D.sl 1 z13 x14 []]), IV.d (D.sl 1 w8 w9 w10)] = some (IV.tup [IV.d (D.bool w11), IV.d (D.int IntKind.i64 w12)], [w13, w14, w15]) ∧ condW w11 (∃ w16 w17, C 16 [IV.d (D.int IntKind.i64 w4)] = some (IV.d (D.int IntKind.i64 w16), [w17]) ∧ condW (w16 != 0) (Q (Out.ret [(6, IV.d (D.bool false))])) (∃ w18 w19, C 16 [IV.d (D.int IntKind.i64 w12)] = some (IV.d (D.int IntKind.i64 w18), [w19]) ∧ condW (w18 != 0) (Q (Out.ret [(6, IV.d (D.bool false))])) (condW (i15 != i10) (Q (Out.norm [(0, IV.d (D.sl 4 z1 x2 e3)), (4, IV.dbox 26 0 [D.sl 1 z4 x5 e6, D.sl 1 z7 x8 e9]), (7, IV.d (D.int IntKind.i64 i10)), (8, IV.ptr 26 0 [IV.own z11 3 1 x12, IV.own z13 23 1 x14]), (11, IV.d (D.int IntKind.i64 (IntKind.wrap IntKind.i64 (i15 + 1))))])) (Q (Out.ret [(6, IV.d (D.bool false))]))))) (∃ w20 w21, C 16 [IV.d (D.int IntKind.i64 w4)] = some (IV.d (D.int IntKind.i64 w20), [w21]) ∧ condW (w20 != 0) (Q (Out.ret [(6, IV.d (D.bool false))])) (∃ w22 w23, C 16 [IV.d (D.int IntKind.i64 w12)] = some (IV.d (D.int IntKind.i64 w22), [w23]) ∧ condW (w22 != 0) (Q (Out.ret [(6, IV.d (D.bool false))])) (condW (i15 != i10) (Q (Out.ret [(6, IV.d (D.bool false))])) (Q (Out.norm [(0, IV.d (D.sl 4 z1 x2 e3)), (4, IV.dbox 26 0 [D.sl 1 z4 x5 e6, D.sl 1 z7 x8 e9]), (7, IV.d (D.int IntKind.i64 i10)), (8, IV.ptr 26 0 [IV.own z11 3 1 x12, IV.own z13 23 1 x14]), (11, IV.d (D.int IntKind.i64 (IntKind.wrap IntKind.i64 (i15 + 1))))])))))) False) (condW (decide (0 ≤ i15)) (∃ w24 w25 w26, x8[Int.toNat i15]? = some (D.sl 1 w24 w25 w26) ∧ ∃ w27 w28 w29 w30 w31, C 12 [IV.d (D.sl 4 z1 x2 e3), IV.d (D.agg [D.sl 1 z11 x12 [], D.sl 1 z13 x14 []]), IV.d (D.sl 1 w24 w25 w26)] = some (IV.tup [IV.d (D.bool w27), IV.d (D.int IntKind.i64 w28)], [w29, w30, w31]) ∧ condW w27 (Q (Out.ret [(6, IV.d (D.bool false))])) (Q (Out.ret [(6, IV.d (D.bool false))]))) False)) False) (Q (Out.exit 0 [(0, IV.d (D.sl 4 z1 x2 e3)), (4, IV.dbox 26 0 [D.sl 1 z4 x5 e6, D.sl 1 z7 x8 e9]), (7, IV.d (D.int IntKind.i64 i10)), (8, IV.ptr 26 0 [IV.own z11 3 1 x12, IV.own z13 23 1 x14]), (11, IV.d (D.int IntKind.i64 i15))]))) := by kernel_rfl
end Go.Proofs.YtckhlalpnginjaaDoor.Ab

/- Each fact of a table is in it: for every input the law returns true. No condition. -/
set_option linter.unusedVariables false
set_option linter.unusedSimpArgs false
set_option maxRecDepth 100000
namespace Go.Proofs.YtckhlalpnginjaaDoor.Ab
open Go Go.Ab Go.Qu Go.Proofs
attribute [local simp] and_assoc
section
variable {zs zf z z' : Bool} {sl sl2 a : List Int} {fs : List Row} {g : List Sym} {e e' es ef : List D}
theorem l_finds (T : TabIn zs sl fs) (t : TblOk g sl (fl fs)) {p : Nat} (hp : p < fs.length) (T2 : TabIn zs sl2 (outR fs p)) (t2 : TblOk g sl2 (outF (fl fs) p)) :
    evP F (Go.Ab.W F) (JW F d7 []) d7 [] [1,1,1,1,1,1,0,1] [(0, iG z g e), (4, .dbox 26 0 [.sl 1 zs (ints sl) es, .sl 1 zf (rws fs) ef]), (7, iI p), (8, .ptr 26 0 [.own zs 3 1 (ints sl2), .d (.sl 1 false (rws (outR fs p)) [])]), (11, iI 0)] = some (.norm [(0, iG z g e), (4, .dbox 26 0 [.sl 1 zs (ints sl) es, .sl 1 zf (rws fs) ef]), (7, iI p), (8, .ptr 26 0 [.own zs 3 1 (ints sl2), .d (.sl 1 false (rws (outR fs p)) [])]), (11, iI fs.length)]) := by
  have hmost : fs.length ≤ 24 := by have := t.most; rwa [fl_len] at this
  have h1 := blk_fun (F := F) (d := d7) (lk := []) (p := [1,1,1,1,1,1,0,1,0,0]) (p0 := [1,1,1,1,1,1,0,1]) (id := 0) (by kernel_rfl) (st := fun (i : Nat) => [(0, iG z g e), (4, .dbox 26 0 [.sl 1 zs (ints sl) es, .sl 1 zf (rws fs) ef]), (7, iI p), (8, .ptr 26 0 [.own zs 3 1 (ints sl2), .d (.sl 1 false (rws (outR fs p)) [])]), (11, iI i)]) (I := fun i => i ≤ fs.length) (μ := fun i => fs.length - i)
    (res := fun _ => .norm [(0, iG z g e), (4, .dbox 26 0 [.sl 1 zs (ints sl) es, .sl 1 zf (rws fs) ef]), (7, iI p), (8, .ptr 26 0 [.own zs 3 1 (ints sl2), .d (.sl 1 false (rws (outR fs p)) [])]), (11, iI fs.length)])
    (fun i hi => by
      by_cases h : i < fs.length
      · obtain ⟨r, hr⟩ := at_lt h
        obtain ⟨s, hs⟩ := at_lt (l := fs) (i := p) hp
        have hri := fl_at hr
        have hsp := fl_at hs
        have hf := t.fact r.l (List.mem_of_getElem? hri)
        have c1 := has_in (z := z) (z' := r.z) (e := e) (e' := r.e) (zf := zf) (es := es) (ef := ef) T t hf
        rw [← fl_outR fs hp] at t2
        have c2 := has_in (z := z) (z' := r.z) (e := e) (e' := r.e) (zf := false) (es := []) (ef := []) T2 t2 hf
        simp only [List.mem_of_getElem? hri, decide_true] at c1
        rw [fl_outR fs hp] at c2
        have hmem := outF_mem t hsp r.l
        have hi' : (i : Int) < fs.length := by omega
        have hat := rws_at hr
        refine .go (i + 1) (wpQ_way (q7_l0a _ _ z (syms g) e zs (ints sl) es zf (rws fs) ef p zs (ints sl2) false (rws (outR fs p)) [] i _) ?_) h (by omega) rfl
        by_cases hip : i = p
        · have hno : r.l ∉ outF (fl fs) p := fun hm => by
            have := (hmem.1 hm).2
            subst hip
            rw [hri] at hsp
            exact this (Option.some.inj hsp)
          simp only [hno, decide_false] at c2
          subst hip
          simp [-Bool.exists_bool, -getElem?_pos, -Int.natCast_add, rws_len, hi', hat, c1, c2, w_num, wr1 h (by omega)]
        · have hyes : r.l ∈ outF (fl fs) p := hmem.2 ⟨List.mem_of_getElem? hri, fun he => by
            rw [he] at hri
            exact hip (t.dist _ _ _ hri hsp)⟩
          simp only [hyes, decide_true] at c2
          have hip' : ¬ (i : Int) = p := by omega
          simp [-Bool.exists_bool, -getElem?_pos, -Int.natCast_add, rws_len, hi', hat, c1, c2, w_num, hip, hip', wr1 h (by omega)]
      · have e1 : i = fs.length := by omega
        subst e1
        refine .stop (.exit 0 [(0, iG z g e), (4, .dbox 26 0 [.sl 1 zs (ints sl) es, .sl 1 zf (rws fs) ef]), (7, iI p), (8, .ptr 26 0 [.own zs 3 1 (ints sl2), .d (.sl 1 false (rws (outR fs p)) [])]), (11, iI fs.length)]) (wpQ_way (q7_l0a _ _ z (syms g) e zs (ints sl) es zf (rws fs) ef p zs (ints sl2) false (rws (outR fs p)) [] _ _) ?_) rfl rfl
        simp [rws_len]) 0 (Nat.zero_le _)
  exact h1
theorem law_finds (T : TabIn zs sl fs) (k : Int) : C 7 [iG z g e, iT zs sl es zf fs ef, iI k] = some (iB true, [iG z g e, iT zs sl es zf fs ef, iI k]) := by
  refine wfn (lk := []) rfl rfl (fnW_way (q7 _ _ z (syms g) e zs (ints sl) es zf (rws fs) ef k _) ?_)
  have h1 := w_tmay zs zf es ef T.len T.most (tabIn_r1 T) z g e
  refine ⟨true, w_awake, ?_⟩
  rw [condW_tt]
  refine ⟨_, _, _, h1, ?_⟩
  cases ht : tblB g sl (fl fs)
  · rw [condW_ff]
  rw [condW_tt]
  have t := tblB_ok.1 ht
  have hmost : fs.length ≤ 24 := by have := t.most; rwa [fl_len] at this
  by_cases h0 : fs.length = 0
  · have e1 : (((rws fs).length : Int) == 0) = true := by rw [rws_len, h0]; rfl
    rw [e1, condW_tt]
  have e1 : (((rws fs).length : Int) == 0) = false := by rw [rws_len, beq_eq_false_iff_ne]; omega
  rw [e1, condW_ff]
  have hu := u_pos (n := fs.length) (by omega) (by omega)
  have e2 : (!IntKind.wrap .u64 ((rws fs).length : Int) == 0) = true := by rw [rws_len]; simp [hu]
  rw [e2, condW_tt]
  obtain ⟨p, hp, hpe⟩ := mod_u k (n := fs.length) (by omega) (by omega)
  have e3 : IntKind.wrap .i64 (Int.tmod (IntKind.wrap .u64 k) (IntKind.wrap .u64 ((rws fs).length : Int))) = (p : Int) := by rw [rws_len, hpe]; exact wr _ (by omega) (by omega)
  rw [e3, condW_d, if_pos (by omega), Int.toNat_natCast]
  obtain ⟨r, hr⟩ := at_lt (l := fs) (i := p) hp
  have hfp : (fl fs)[p]? = some r.l := fl_at hr
  have hf := t.fact r.l (List.mem_of_getElem? hfp)
  obtain ⟨q, q2, hq, hq2, gq, gr, hcut⟩ := w_cut_yes T t hf hfp
  have t2 := cutS_tbl t hp hq hq2 gq gr
  have T2 := tabIn_cut T t.len hp (cutS_len t.len fs.length p q q2)
  refine ⟨_, _, _, rws_at hr, .inl ⟨_, _, _, _, _, _, _, _, _, _, hcut z r.z zf e r.e es ef, ?_⟩⟩
  rw [condW_tt]
  refine ⟨_, _, w_num 0, ?_⟩
  rw [show ((0 : Int) != 0) = false from rfl, condW_ff]
  refine .inr (.inl ⟨_, _, _, _, _, _, _, _, _, _, _, _, _, _, _, _, l_finds (z := z) (e := e) (zf := zf) (es := es) (ef := ef) T t hp T2 t2, ?_⟩)
  have e4 : (((rws (outR fs p)).length : Int) == IntKind.wrap .i64 (((rws fs).length : Int) - 1)) = true := by
    have e5 : (outR fs p).length = fs.length - 1 := by
      have := congrArg List.length (fl_outR fs hp)
      rwa [fl_len, outF_len, fl_len] at this
    rw [rws_len, rws_len, e5, wr _ (by omega) (by omega), beq_iff_eq]; omega
  rw [e4, condW_tt]
end
theorem call_finds (y0 y1 y2 : D) (g0 : Go.Ab.Good Tryd.prog 12 22 y0) (g1 : Go.Ab.Good Tryd.prog 12 26 y1) (g2 : Go.Ab.Good Tryd.prog 12 3 y2) : ∃ outs, C 7 [.d y0, .d y1, .d y2] = some (iB true, outs) := by
  obtain ⟨z, g, rfl⟩ := good_sig g0
  obtain ⟨zs, sl, zf, fs, rfl, T⟩ := good_table' g1
  obtain ⟨k, rfl, _⟩ := good_int g2
  exact ⟨_, law_finds T k⟩
end Go.Proofs.YtckhlalpnginjaaDoor.Ab
