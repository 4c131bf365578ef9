/- What the rows of this seat share: the variable that is laid, the world in which it is so. No condition. -/
import Derived.Below
import Derived.ChangeOld
import Derived.LaidMore
import Derived.Lib.SmallJoins
import Derived.OpenShut
import Derived.ProofKit
import Derived.SevenTiedAt
import Derived.ShutString
import Derived.SizedLaws
import Derived.Stop.Joined
import Derived.Test.YtckhlalpnginjaaDoorCards
import Derived.Test.YtckhlalpnginjaaDoorRows
import Derived.Test.YtckhlalpnginjaaDoorTie
import Derived.WalkKit
import Derived.Test.YtckhlalpnginjaaDoorFacts0
import Derived.Test.YtckhlalpnginjaaDoorFacts1
import Derived.Test.YtckhlalpnginjaaDoorFacts2
import Derived.Test.YtckhlalpnginjaaDoorFacts3
import Derived.Test.YtckhlalpnginjaaDoorFacts4
import Derived.Test.YtckhlalpnginjaaDoorFacts5
import Derived.Test.YtckhlalpnginjaaDoorFacts6
import Derived.Test.YtckhlalpnginjaaDoorFacts7
import Derived.Test.YtckhlalpnginjaaDoorFacts8
import Derived.Test.YtckhlalpnginjaaDoorFacts9
import Derived.Test.YtckhlalpnginjaaDoorFacts10
import Derived.Test.YtckhlalpnginjaaDoorFacts11
import Derived.Test.YtckhlalpnginjaaDoorFacts12
namespace Go.Proofs.YtckhlalpnginjaaDoor.Ab
open Go Go.Ab Go.Qu Go.Proofs Go.ChangeShapes Go.WideShapes Go.ChangeAt Go.RowKit Go.Joins
set_option linter.unusedVariables false
set_option maxRecDepth 100000
theorem own : ownKnob Tryd.prog.godebug = none := by kernel_rfl
theorem laidOut : laidOutB Tryd.prog = true := by kernel_rfl
abbrev laid1 : List (String × DataW Unit) := [("quaere/sign.equals", Rows.laid_quaere_sign_equals)]
theorem gEq : Tryd.prog.globalNamed "quaere/sign.equals" = some 0 := by kernel_rfl
theorem tEq : (Tryd.prog.globals[0]?).map (·.type) = some 68 := by kernel_rfl
theorem door_met (os : Os) (args : Array Value) : laidMetH Tryd.prog laid1 ((World.doorLaid Tryd.prog 400 os).forCall (fun _ _ => 0) ⟨#[], args, []⟩).memory :=
  laidMetH_of_parts3 (fuel := 8) (laidMet_of_run' 8 (by kernel_rfl) (by kernel_rfl)) (by kernel_rfl) (by kernel_rfl)
theorem globs {W : World} (h : laidMetH Tryd.prog laid1 W) : GlobOk (Hw W) F.G := by
  rw [MakeChecks.laidMetH_plain _ _ _ (by kernel_rfl)] at h
  obtain ⟨ps, ⟨g0, t0, cs0, f0, p0, q0, hg0, ht0, hv0, hd0, _, _⟩, _, _⟩ := h
  obtain rfl := Option.some.inj (gEq.symm.trans hg0)
  obtain rfl := Option.some.inj (tEq.symm.trans ht0)
  obtain ⟨xs, n, _, hx, hlen, hxl, hf⟩ := DataW.trod_struct Tryd.underlying68 hd0
  have c1 : Tryd.prog.cellsOf 68 = 4 := by kernel_rfl
  have cs : Tryd.prog.cellsOf 9 = 1 := by kernel_rfl
  have ci : Tryd.prog.cellsOf 3 = 1 := by kernel_rfl
  rw [c1] at hlen
  have hx1 : xs.map (·.1) = [.lit (.string [61]), .lit (.int .i64 0), .lit (.int .i64 2), .lit (.int .i64 1)] := by
    simp only [Prod.mk.injEq] at hx
    have h9 := hx.1
    unfold Rows.laid_quaere_sign_equals at h9
    simp only [DataW.agg.injEq] at h9
    exact h9.symm
  have hcs : ∃ a b c d, cs0.toList = [a, b, c, d] := by
    match h : cs0.toList, hlen with
    | [a, b, c, d], _ => exact ⟨a, b, c, d, rfl⟩
  obtain ⟨a, b, c, d, hcs⟩ := hcs
  have hxs : ∃ x0 x1 x2 x3, xs = [x0, x1, x2, x3] := by
    match xs, hxl with
    | [x0, x1, x2, x3], _ => exact ⟨x0, x1, x2, x3, rfl⟩
  obtain ⟨x0, x1, x2, x3, rfl⟩ := hxs
  simp only [List.map_cons, List.map_nil, List.cons.injEq, and_true] at hx1
  obtain ⟨e0, e1, e2, e3⟩ := hx1
  have h0 : DataW.trod (fun _ => ()) Tryd.prog W 0 (fun _ => true) false n 9 ((cs0.toList.drop 0).take (Tryd.prog.cellsOf 9)) = some x0 := hf 0 _ rfl
  have h1 : DataW.trod (fun _ => ()) Tryd.prog W 0 (fun _ => true) false n 3 ((cs0.toList.drop 1).take (Tryd.prog.cellsOf 3)) = some x1 := hf 1 _ rfl
  have h2 : DataW.trod (fun _ => ()) Tryd.prog W 0 (fun _ => true) false n 3 ((cs0.toList.drop 2).take (Tryd.prog.cellsOf 3)) = some x2 := hf 2 _ rfl
  have h3 : DataW.trod (fun _ => ()) Tryd.prog W 0 (fun _ => true) false n 3 ((cs0.toList.drop 3).take (Tryd.prog.cellsOf 3)) = some x3 := hf 3 _ rfl
  rw [hcs, cs] at h0
  rw [hcs, ci] at h1 h2 h3
  obtain ⟨s, ha, hs, _⟩ := DataW.trod_string Tryd.underlying9 h0
  obtain ⟨n1, hb, hn1, _⟩ := DataW.trod_int Tryd.underlying3 h1
  obtain ⟨n2, hc, hn2, _⟩ := DataW.trod_int Tryd.underlying3 h2
  obtain ⟨n3, hd, hn3, _⟩ := DataW.trod_int Tryd.underlying3 h3
  simp at ha hb hc hd
  rw [hs] at e0; rw [hn1] at e1; rw [hn2] at e2; rw [hn3] at e3
  simp at e0 e1 e2 e3
  subst ha hb hc hd e1 e2 e3
  have hse : s = "=".toUTF8 := by
    have h5 : "=".toUTF8.data.toList = [61] := by decide +kernel
    have h6 : s.data = "=".toUTF8.data := Array.toList_inj.1 (e0.trans h5.symm)
    exact (show ∀ (x y : ByteArray), x.data = y.data → x = y by intro ⟨_⟩ ⟨_⟩ h; exact congrArg _ h) _ _ h6
  subst hse
  have hcell : ∀ (j : Nat) u, [Value.string "=".toUTF8, .int .i64 0, .int .i64 2, .int .i64 1][j]? = some u → W.cell? ⟨0, j, none⟩ = some u := fun j u hj => by
    have h7 := World.var?_cell hg0 hv0 j
    have h8 : cs0[j]? = some u := by rw [← Array.getElem?_toList, hcs]; exact hj
    rw [h8] at h7
    simpa using h7
  intro g cs hg
  simp only [F, List.map_cons, List.map_nil, assoc] at hg
  split at hg
  · rename_i hg0
    subst hg0
    simp only [Option.some.injEq] at hg
    subst hg
    refine ⟨[.string "=".toUTF8, .int .i64 0, .int .i64 2, .int .i64 1], ?_, fun j u hj => ?_, by simp [D.isAgg]⟩
    · unfold D.RepL; refine ⟨[_], _, rfl, by unfold D.Rep; rfl, ?_⟩
      unfold D.RepL; refine ⟨[_], _, rfl, by unfold D.Rep; rfl, ?_⟩
      unfold D.RepL; refine ⟨[_], _, rfl, by unfold D.Rep; rfl, ?_⟩
      unfold D.RepL; refine ⟨[_], [], rfl, by unfold D.Rep; rfl, ?_⟩
      unfold D.RepL; rfl
    · refine Hw.cell ?_
      have h9 := hcell j u hj
      unfold Addr.add
      split
      · rename_i hj0; subst hj0; exact h9
      · simpa using h9
  · simp at hg
theorem fxOk : FxOk Tryd.prog F where
  orders := by kernel_rfl
  tab := tab_ok
  code := code_ok.get
  prim := fun f p args r outs h => by cases h
/-! ### Arguments -/
theorem good_sym {n : Nat} {x : D} (h : Go.Ab.Good Tryd.prog (n + 2) 68 x) : ∃ s : Sym, x = s.d := by
  unfold Go.Ab.Good at h
  rw [Tryd.underlying68] at h
  obtain ⟨ys, rfl, y0, r0, rfl, h0, y1, r1, rfl, h1, y2, r2, rfl, h2, y3, r3, rfl, h3, rfl⟩ := h
  unfold Go.Ab.Good at h0 h1 h2 h3
  simp only [Tryd.underlying9, Tryd.underlying3] at h0 h1 h2 h3
  obtain ⟨s, rfl, _⟩ := h0
  obtain ⟨a, rfl, _⟩ := h1
  obtain ⟨b, rfl, _⟩ := h2
  obtain ⟨c, rfl, _⟩ := h3
  exact ⟨⟨s, a, b, c⟩, rfl⟩
theorem good_sig {n : Nat} {x : D} (h : Go.Ab.Good Tryd.prog (n + 3) 22 x) : ∃ z g, x = .sl 4 z (syms g) [] := by
  unfold Go.Ab.Good at h
  rw [Tryd.underlying22] at h
  obtain ⟨z, xs, rfl, _, h2, _⟩ := h
  have hc : Tryd.prog.cellsOf 68 = 4 := by kernel_rfl
  rw [hc]
  obtain ⟨g, rfl, _⟩ := all_map (f := Sym.d) (Q := fun _ => True) (fun y hy => by obtain ⟨s, hs⟩ := good_sym (h2 y hy); exact ⟨s, hs, trivial⟩)
  exact ⟨z, g, rfl⟩
theorem good_int {n : Nat} {x : D} (h : Go.Ab.Good Tryd.prog (n + 1) 3 x) : ∃ a : Int, x = .int .i64 a ∧ -9223372036854775808 ≤ a ∧ a ≤ 9223372036854775807 := by
  unfold Go.Ab.Good at h
  rw [Tryd.underlying3] at h
  obtain ⟨a, rfl, hw⟩ := h
  refine ⟨a, rfl, ?_⟩
  simp [Lit.wf, IntKind.min, IntKind.max, IntKind.bits, IntKind.signed] at hw
  omega
theorem good_ints {n : Nat} {x : D} (h : Go.Ab.Good Tryd.prog (n + 2) 23 x) : ∃ z l, x = .sl 1 z (ints l) [] ∧ Len l := by
  unfold Go.Ab.Good at h
  rw [Tryd.underlying23] at h
  obtain ⟨z, xs, rfl, h1, h2, _⟩ := h
  have hc : Tryd.prog.cellsOf 3 = 1 := by kernel_rfl
  have hb : Tryd.prog.bytesOf 3 = 8 := by kernel_rfl
  rw [hb] at h1
  rw [hc]
  obtain ⟨l, rfl, _⟩ := all_map (f := D.int .i64) (Q := fun _ => True) (fun y hy => by obtain ⟨a, ha, _⟩ := good_int (h2 y hy); exact ⟨a, ha, trivial⟩)
  rw [List.length_map] at h1
  exact ⟨z, l, rfl, by unfold Len; simpa [reachBytes] using h1⟩
theorem good_rows {n : Nat} {x : D} (h : Go.Ab.Good Tryd.prog (n + 3) 24 x) : ∃ z rs, x = .sl 1 z (rws rs) [] ∧ rs.length * 24 ≤ 140737488351232 ∧ ∀ r ∈ rs, Len r.l := by
  unfold Go.Ab.Good at h
  rw [Tryd.underlying24] at h
  obtain ⟨z, xs, rfl, h1, h2, _⟩ := h
  have hc : Tryd.prog.cellsOf 23 = 1 := by kernel_rfl
  have hb : Tryd.prog.bytesOf 23 = 24 := by kernel_rfl
  rw [hb] at h1
  rw [hc]
  obtain ⟨rs, rfl, h4⟩ := all_map (f := Row.d) (Q := fun r => Len r.l) (fun y hy => by obtain ⟨z, l, h, hl⟩ := good_ints (h2 y hy); exact ⟨⟨z, l, []⟩, h, hl⟩)
  rw [List.length_map] at h1
  exact ⟨z, rs, rfl, by simpa [reachBytes] using h1, h4⟩
end Go.Proofs.YtckhlalpnginjaaDoor.Ab

/- Tables of facts: that the program and the document tell the same. Plain lists; no condition. -/
set_option linter.unusedVariables false
set_option linter.unusedSimpArgs false
namespace Go.Qu
open Go Go.Ab

theorem probe_step (h j : Nat) : (probe h j + 1) % 32 = probe h (j + 1) := by unfold probe; omega
theorem probe_inj {h m m' : Nat} (hm : m < 32) (hm' : m' < 32) (he : probe h m = probe h m') : m = m' := by unfold probe at he; omega
theorem probe_onto (h : Nat) {i : Nat} (hi : i < 32) : ∃ m, m < 32 ∧ probe h m = i := ⟨(i + 32 - h % 32) % 32, Nat.mod_lt _ (by omega), by unfold probe; omega⟩
def cnt (l : List Int) : Nat := l.countP fun x => decide (0 ≤ x)
theorem cnt_mid (s t : List Int) {x : Int} (hx : 0 ≤ x) : cnt (s ++ x :: t) = cnt (s ++ t) + 1 := by
  simp [cnt, List.countP_append, List.countP_cons, hx]; omega
def Inj (l : List Int) : Prop := ∀ x, 0 ≤ x → l.count x ≤ 1
theorem covers_le : ∀ (n : Nat) (l : List Int), (∀ k : Nat, k < n → (k : Int) ∈ l) → n ≤ cnt l
  | 0, l, h => Nat.zero_le _
  | n + 1, l, h => by
    obtain ⟨s, t, rfl⟩ := List.append_of_mem (h n (Nat.lt_succ_self n))
    have := covers_le n (s ++ t) (fun k hk => by
      have h1 := h k (by omega)
      simp only [List.mem_append, List.mem_cons] at h1 ⊢
      rcases h1 with h1 | h1 | h1
      · exact .inl h1
      · omega
      · exact .inr h1)
    rw [cnt_mid s t (by omega)]
    omega
theorem inj_of {n : Nat} {l : List Int} (hc : cnt l = n) (hk : ∀ k : Nat, k < n → (k : Int) ∈ l) : Inj l := by
  intro x hx
  by_cases hm : x ∈ l
  · obtain ⟨s, t, rfl⟩ := List.append_of_mem hm
    by_cases h2 : x ∈ s ++ t
    · have := covers_le n (s ++ t) (fun k hk' => by
        have h1 := hk k hk'
        simp only [List.mem_append, List.mem_cons] at h1 h2 ⊢
        rcases h1 with h1 | h1 | h1
        · exact .inl h1
        · rw [h1]; exact h2
        · exact .inr h1)
      rw [cnt_mid s t hx] at hc
      omega
    · have h3 := List.count_eq_zero_of_not_mem h2
      simp only [List.count_append, List.count_cons_self] at h3 ⊢
      omega
  · rw [List.count_eq_zero_of_not_mem hm]; omega
theorem cnt_le : ∀ (n : Nat) (l : List Int), (∀ x ∈ l, x < n) → Inj l → cnt l ≤ n
  | 0, l, h, hi => by
    have : cnt l = 0 := by
      unfold cnt
      rw [List.countP_eq_zero]
      intro x hx
      have := h x hx
      simp; omega
    omega
  | n + 1, l, h, hi => by
    by_cases hm : (n : Int) ∈ l
    · obtain ⟨s, t, rfl⟩ := List.append_of_mem hm
      have h1 := hi n (by omega)
      simp only [List.count_append, List.count_cons_self] at h1
      have := cnt_le n (s ++ t) (fun x hx => by
        have h2 := h x (by simp only [List.mem_append, List.mem_cons] at hx ⊢; rcases hx with hx | hx; exact .inl hx; exact .inr (.inr hx))
        have h3 : x ≠ n := fun e => by
          subst e
          have := List.count_pos_iff.2 hx
          rw [List.count_append] at this
          omega
        omega) (fun x hx => by
        have h2 := hi x hx
        rw [List.count_append, List.count_cons] at h2
        rw [List.count_append]
        omega)
      rw [cnt_mid s t (by omega)]
      omega
    · have := cnt_le n l (fun x hx => by
        have h2 := h x hx
        have h3 : x ≠ n := fun e => hm (e ▸ hx)
        omega) hi
      omega
theorem covers_of {n : Nat} {l : List Int} (hr : ∀ x ∈ l, x < n) (hi : Inj l) (hc : cnt l = n) (k : Nat) (hk : k < n) : (k : Int) ∈ l := by
  by_cases hm : (k : Int) ∈ l
  · exact hm
  · have := cnt_le n ((k : Int) :: l) (fun x hx => by
      rcases List.mem_cons.1 hx with rfl | hx
      · omega
      · exact hr x hx) (fun x hx => by
      rw [List.count_cons]
      by_cases he : (k : Int) = x
      · subst he
        rw [List.count_eq_zero_of_not_mem hm]; simp
      · have := hi x hx
        simp [he]; omega)
    have h2 := cnt_mid [] l (x := (k : Int)) (by omega)
    simp only [List.nil_append] at h2
    omega
theorem mem_gi {l : List Int} {x : Int} (h : x ∈ l) : ∃ i, i < l.length ∧ gi l i = x := by
  obtain ⟨i, hi, he⟩ := List.getElem_of_mem h
  exact ⟨i, hi, by simp [gi, hi, he]⟩
theorem inj_gi {l : List Int} (hi : Inj l) {i j : Nat} (h1 : i < l.length) (h2 : j < l.length) (hx : 0 ≤ gi l i) (he : gi l i = gi l j) : i = j := by
  have key : ∀ i j, i < j → j < l.length → 0 ≤ gi l i → gi l i = gi l j → False := fun i j hij hj hx he => by
    have h3 : l = l.take i ++ gi l i :: l.drop (i + 1) := by rw [← gi_drop (by omega), List.take_append_drop]
    have h4 : gi l j ∈ l.drop (i + 1) := by
      rw [List.mem_drop_iff_getElem]
      refine ⟨j - (i + 1), by omega, ?_⟩
      simp only [show i + 1 + (j - (i + 1)) = j by omega]
      simp [gi, hj]
    have h5 := hi _ hx
    have h6 := List.count_pos_iff.2 h4
    rw [← he] at h6
    have h7 : l.count (gi l i) = (l.take i).count (gi l i) + ((l.drop (i + 1)).count (gi l i) + 1) := by
      conv => lhs; arg 2; rw [h3]
      rw [List.count_append, List.count_cons_self]
    omega
  rcases Nat.lt_trichotomy i j with h | h | h
  · exact (key i j h h2 hx he).elim
  · exact h
  · exact (key j i h h1 (by rw [← he]; exact hx) he.symm).elim
theorem gi_inj {l : List Int} (h : ∀ i j, i < l.length → j < l.length → 0 ≤ gi l i → gi l i = gi l j → i = j) : Inj l := by
  intro x hx
  by_cases hm : x ∈ l
  · obtain ⟨i, hi, he⟩ := mem_gi hm
    have h3 : l = l.take i ++ gi l i :: l.drop (i + 1) := by rw [← gi_drop hi, List.take_append_drop]
    have h4 : x ∉ l.take i := fun hk => by
      obtain ⟨j, hj, hje⟩ := List.getElem_of_mem hk
      simp at hj
      have h5 : gi l j = x := by rw [← hje]; simp [gi, show j < l.length by omega]
      have := h j i (by omega) hi (by omega) (by omega)
      omega
    have h5 : x ∉ l.drop (i + 1) := fun hk => by
      obtain ⟨j, hj, hje⟩ := List.getElem_of_mem hk
      simp at hj
      have h5 : gi l (i + 1 + j) = x := by rw [← hje]; simp [gi, show i + 1 + j < l.length by omega]
      have := h (i + 1 + j) i (by omega) hi (by omega) (by omega)
      omega
    rw [h3, he, List.count_append, List.count_cons_self, List.count_eq_zero_of_not_mem h4, List.count_eq_zero_of_not_mem h5]
    omega
  · rw [List.count_eq_zero_of_not_mem hm]; omega
theorem slotsF_iff {n : Nat} : ∀ (l : List Int) (seen : List Bool) (k : Nat), seen.length = n → (slotsF n l seen k = true ↔ (∀ x ∈ l, x = -1 ∨ x = -2 ∨ (0 ≤ x ∧ x < n ∧ seen[x.toNat]? ≠ some true)) ∧ Inj l ∧ k + cnt l = n)
  | [], seen, k, hs => by simp [slotsF, Inj, cnt]
  | y :: l, seen, k, hs => by
    unfold slotsF
    have hcons : ∀ x : Int, (y :: l).count x = l.count x + if y = x then 1 else 0 := fun x => by rw [List.count_cons]; simp
    by_cases h1 : y = -1 ∨ y = -2
    · rw [if_pos h1, slotsF_iff l seen k hs]
      have hc : cnt (y :: l) = cnt l := by unfold cnt; rw [List.countP_cons]; rcases h1 with rfl | rfl <;> simp
      rw [hc]
      constructor
      · rintro ⟨h2, h3, h4⟩
        refine ⟨fun x hx => ?_, fun x hx => ?_, h4⟩
        · rcases List.mem_cons.1 hx with rfl | hx
          · rcases h1 with h1 | h1
            · exact .inl h1
            · exact .inr (.inl h1)
          · exact h2 x hx
        · rw [hcons, if_neg (by omega)]; exact h3 x hx
      · rintro ⟨h2, h3, h4⟩
        exact ⟨fun x hx => h2 x (List.mem_cons_of_mem _ hx), fun x hx => by have := h3 x hx; rw [hcons] at this; omega, h4⟩
    · rw [if_neg h1]
      by_cases h2 : y < 0 ∨ (n : Int) ≤ y ∨ seen[y.toNat]? = some true
      · rw [if_pos h2]
        constructor
        · intro h; cases h
        · rintro ⟨h3, _, _⟩
          rcases h3 y (by simp) with h4 | h4 | ⟨h4, h5, h6⟩
          · exact (h1 (.inl h4)).elim
          · exact (h1 (.inr h4)).elim
          · rcases h2 with h2 | h2 | h2
            · omega
            · omega
            · exact (h6 h2).elim
      · rw [if_neg h2, slotsF_iff l (seen.set y.toNat true) (k + 1) (by simp [hs])]
        have hy0 : 0 ≤ y := by omega
        have hyn : y < n := by omega
        have hseen : seen[y.toNat]? ≠ some true := fun h => h2 (.inr (.inr h))
        have hc : cnt (y :: l) = cnt l + 1 := by have := cnt_mid [] l hy0; simpa using this
        rw [hc]
        constructor
        · rintro ⟨h3, h4, h5⟩
          have hnot : y ∉ l := fun hm => by
            rcases h3 y hm with h6 | h6 | ⟨_, _, h6⟩
            · omega
            · omega
            · apply h6
              rw [List.getElem?_set_self (by omega)]
          refine ⟨fun x hx => ?_, fun x hx => ?_, by omega⟩
          · rcases List.mem_cons.1 hx with rfl | hx
            · exact .inr (.inr ⟨hy0, hyn, hseen⟩)
            · rcases h3 x hx with h6 | h6 | ⟨h6, h7, h8⟩
              · exact .inl h6
              · exact .inr (.inl h6)
              · refine .inr (.inr ⟨h6, h7, ?_⟩)
                have hne : y ≠ x := fun e => hnot (e ▸ hx)
                rwa [List.getElem?_set_ne (by omega)] at h8
          · rw [hcons]
            split
            · rename_i e; subst e
              rw [List.count_eq_zero_of_not_mem hnot]; omega
            · have := h4 x hx; omega
        · rintro ⟨h3, h4, h5⟩
          have hnot : y ∉ l := fun hm => by
            have h6 := h4 y hy0
            have h7 := List.count_pos_iff.2 hm
            rw [hcons, if_pos rfl] at h6
            omega
          refine ⟨fun x hx => ?_, fun x hx => ?_, by omega⟩
          · rcases h3 x (List.mem_cons_of_mem _ hx) with h6 | h6 | ⟨h6, h7, h8⟩
            · exact .inl h6
            · exact .inr (.inl h6)
            · refine .inr (.inr ⟨h6, h7, ?_⟩)
              have hne : y ≠ x := fun e => hnot (e ▸ hx)
              rwa [List.getElem?_set_ne (by omega)]
          · have := h4 x hx; rw [hcons] at this; omega
theorem taken_cnt : ∀ (l : List Int) (k : Nat), takenF l k = k + cnt l
  | [], k => by simp [takenF, cnt]
  | x :: l, k => by
    unfold takenF
    rw [taken_cnt l]
    by_cases h : 0 ≤ x
    · have := cnt_mid [] l h
      simp only [List.nil_append] at this
      rw [if_pos h, this]; omega
    · rw [if_neg h]
      unfold cnt
      rw [List.countP_cons]; simp [h]
/-- What may be a table. -/
structure TblOk (g : List Sym) (sl : List Int) (fs : List (List Int)) : Prop where
  sg : sigB g = true
  len : sl.length = 32
  most : fs.length ≤ 24
  rng : ∀ x ∈ sl, x = -1 ∨ x = -2 ∨ (0 ≤ x ∧ x < fs.length)
  inj : Inj sl
  fact : ∀ a ∈ fs, factB g a = true
  dist : ∀ (i j : Nat) (a : List Int), fs[i]? = some a → fs[j]? = some a → i = j
  road : ∀ (k : Nat) (a : List Int), fs[k]? = some a → ∃ m, m < 32 ∧ gi sl (probe (hashM a).toNat m) = k ∧ ∀ m', m' < m → gi sl (probe (hashM a).toNat m') ≠ -1
theorem slotF_hit {sl : List Int} {fs : List (List Int)} {a : List Int} {h : Nat} : ∀ (n j m : Nat), j ≤ m → m < j + n → 0 ≤ gi sl (probe h m) → fs[(gi sl (probe h m)).toNat]? = some a → (∀ m', j ≤ m' → m' < m → gi sl (probe h m') ≠ -1 ∧ ¬ (0 ≤ gi sl (probe h m') ∧ fs[(gi sl (probe h m')).toNat]? = some a)) → slotF sl fs a h n j = (probe h m : Int)
  | 0, j, m, h1, h2, _, _, _ => by omega
  | n + 1, j, m, h1, h2, h3, h4, h5 => by
    unfold slotF
    by_cases hj : j = m
    · subst hj
      rw [if_neg (by omega), if_pos ⟨h3, h4⟩]
    · have := h5 j (Nat.le_refl _) (by omega)
      rw [if_neg this.1, if_neg this.2]
      exact slotF_hit n (j + 1) m (by omega) (by omega) h3 h4 (fun m' h6 h7 => h5 m' (by omega) h7)
theorem slotF_is {sl : List Int} {fs : List (List Int)} {a : List Int} {h : Nat} : ∀ (n j : Nat), 0 ≤ slotF sl fs a h n j → ∃ m, j ≤ m ∧ m < j + n ∧ slotF sl fs a h n j = (probe h m : Int) ∧ 0 ≤ gi sl (probe h m) ∧ fs[(gi sl (probe h m)).toNat]? = some a ∧ ∀ m', j ≤ m' → m' < m → gi sl (probe h m') ≠ -1
  | 0, j, h1 => by simp [slotF] at h1
  | n + 1, j, h1 => by
    unfold slotF at h1 ⊢
    split at h1
    · omega
    · rename_i hne
      split at h1
      · rename_i hx
        exact ⟨j, Nat.le_refl _, by omega, by rw [if_neg hne, if_pos hx], hx.1, hx.2, fun m' h2 h3 => by omega⟩
      · rename_i hx
        obtain ⟨m, h2, h3, h4, h5, h6, h7⟩ := slotF_is n (j + 1) h1
        refine ⟨m, by omega, by omega, by rw [if_neg hne, if_neg hx]; exact h4, h5, h6, fun m' h8 h9 => ?_⟩
        by_cases hj : m' = j
        · subst hj; exact hne
        · exact h7 m' (by omega) h9
theorem TblOk.slot {g : List Sym} {sl : List Int} {fs : List (List Int)} (t : TblOk g sl fs) {k : Nat} {a : List Int} (ha : fs[k]? = some a) : ∃ m, m < 32 ∧ slotM sl fs a = (probe (hashM a).toNat m : Int) ∧ gi sl (probe (hashM a).toNat m) = k := by
  obtain ⟨m, h1, h2, h3⟩ := t.road k a ha
  refine ⟨m, h1, ?_, h2⟩
  refine slotF_hit 32 0 m (Nat.zero_le _) (by omega) (by omega) (by rw [h2]; simpa using ha) (fun m' _ h5 => ⟨h3 m' h5, fun h6 => ?_⟩)
  have h7 := t.dist _ _ _ h6.2 ha
  have h8 : probe (hashM a).toNat m' = probe (hashM a).toNat m := inj_gi t.inj (by rw [t.len]; exact Nat.mod_lt _ (by omega)) (by rw [t.len]; exact Nat.mod_lt _ (by omega)) h6.1 (by omega)
  have := probe_inj (by omega) h1 h8
  omega
theorem tblB_ok {g : List Sym} {sl : List Int} {fs : List (List Int)} : tblB g sl fs = true ↔ TblOk g sl fs := by
  constructor
  · intro h
    simp only [tblB, Bool.and_eq_true, decide_eq_true_eq] at h
    obtain ⟨h1, h2, h3, h4, h5, h6⟩ := h
    have h7 := (slotsF_iff sl (List.replicate fs.length false) 0 (by simp)).1 h4
    have hs : ∀ (i : Nat) (a : List Int), fs[i]? = some a → 0 ≤ slotM sl fs a ∧ gi sl (slotM sl fs a).toNat = i := fun i a ha => by
      have := List.all_eq_true.1 h6 i (List.mem_range.2 (lt_at ha))
      rw [ha] at this
      simpa using this
    refine ⟨h1, h2, h3, fun x hx => ?_, h7.2.1, fun a ha => List.all_eq_true.1 h5 a ha, fun i j a hi hj => ?_, fun k a ha => ?_⟩
    · rcases h7.1 x hx with h | h | h
      · exact .inl h
      · exact .inr (.inl h)
      · exact .inr (.inr ⟨h.1, h.2.1⟩)
    · have e1 := (hs i a hi).2
      have e2 := (hs j a hj).2
      omega
    · have e1 := hs k a ha
      obtain ⟨m, m1, m2, m3, m4, m5, m6⟩ := slotF_is 32 0 e1.1
      refine ⟨m, by omega, ?_, fun m' hm' => m6 m' (Nat.zero_le _) hm'⟩
      have e2 := e1.2
      unfold slotM at e2
      rw [m3] at e2
      simpa using e2
  · intro t
    have hcov : ∀ k : Nat, k < fs.length → (k : Int) ∈ sl := fun k hk => by
      obtain ⟨a, ha⟩ := at_lt hk
      obtain ⟨m, h1, h2, _⟩ := t.road k a ha
      rw [← h2]
      exact gi_mem (by rw [t.len]; exact Nat.mod_lt _ (by omega))
    have hc : cnt sl = fs.length := by
      have h1 := covers_le _ _ hcov
      have h2 := cnt_le fs.length sl (fun x hx => by rcases t.rng x hx with h | h | h <;> omega) t.inj
      omega
    simp only [tblB, Bool.and_eq_true, decide_eq_true_eq]
    refine ⟨t.sg, t.len, t.most, (slotsF_iff sl (List.replicate fs.length false) 0 (by simp)).2 ⟨fun x hx => ?_, t.inj, by omega⟩, List.all_eq_true.2 t.fact, List.all_eq_true.2 fun i hi => ?_⟩
    · rcases t.rng x hx with h | h | h
      · exact .inl h
      · exact .inr (.inl h)
      · refine .inr (.inr ⟨h.1, h.2, ?_⟩)
        rw [List.getElem?_replicate]
        split <;> simp
    · obtain ⟨a, ha⟩ := at_lt (List.mem_range.1 hi)
      obtain ⟨m, h1, h2, h3⟩ := t.slot ha
      rw [ha]
      simp only [Bool.and_eq_true, decide_eq_true_eq, beq_iff_eq]
      rw [h2]
      exact ⟨by omega, by simpa using h3⟩
/-! ### The reference's -/
theorem lastF_is (x : Int) : ∀ (sl : List Int) (i : Nat) (at_ : Int), at_ < i → ((x ∉ sl ∧ lastF x sl i at_ = at_) ∨ ∃ j, j < sl.length ∧ gi sl j = x ∧ lastF x sl i at_ = ((i + j : Nat) : Int))
  | [], i, at_, h => .inl ⟨by simp, rfl⟩
  | y :: sl, i, at_, h => by
    unfold lastF
    rcases lastF_is x sl (i + 1) (if y = x then (i : Int) else at_) (by split <;> omega) with ⟨h1, h2⟩ | ⟨j, h1, h2, h3⟩
    · by_cases hy : y = x
      · rw [if_pos hy] at h2 ⊢
        exact .inr ⟨0, by simp, by simp [gi, hy], by rw [h2]; rfl⟩
      · rw [if_neg hy] at h2 ⊢
        exact .inl ⟨by simp [h1, Ne.symm hy], h2⟩
    · refine .inr ⟨j + 1, by simp; omega, by simpa [gi] using h2, ?_⟩
      rw [h3]
      omega
theorem lastM_is (sl : List Int) (x : Int) : (x ∉ sl ∧ lastM sl x = -1) ∨ ∃ j : Nat, j < sl.length ∧ gi sl j = x ∧ lastM sl x = (j : Int) := by
  rcases lastF_is x sl 0 (-1) (by omega) with h | ⟨j, h1, h2, h3⟩
  · exact .inl h
  · exact .inr ⟨j, h1, h2, by unfold lastM; rw [h3]; simp⟩
theorem whereF_is (a : List Int) : ∀ (fs : List (List Int)) (i : Nat), (a ∉ fs ∧ whereF a fs i = -1) ∨ ∃ j, fs[j]? = some a ∧ whereF a fs i = ((i + j : Nat) : Int) ∧ ∀ k, k < j → fs[k]? ≠ some a
  | [], i => .inl ⟨by simp, rfl⟩
  | b :: fs, i => by
    unfold whereF
    by_cases hb : b = a
    · rw [if_pos hb]
      exact .inr ⟨0, by simp [hb], rfl, fun k hk => by omega⟩
    · rw [if_neg hb]
      rcases whereF_is a fs (i + 1) with ⟨h1, h2⟩ | ⟨j, h1, h2, h3⟩
      · exact .inl ⟨by simp [h1, Ne.symm hb], h2⟩
      · refine .inr ⟨j + 1, by simpa using h1, by rw [h2]; omega, fun k hk => ?_⟩
        cases k with
        | zero => simp [hb]
        | succ k => simpa using h3 k (by omega)
theorem whereM_is (fs : List (List Int)) (a : List Int) : (a ∉ fs ∧ whereM fs a = -1) ∨ ∃ j : Nat, fs[j]? = some a ∧ whereM fs a = (j : Int) ∧ ∀ k, k < j → fs[k]? ≠ some a := by
  rcases whereF_is a fs 0 with h | ⟨j, h1, h2, h3⟩
  · exact .inl h
  · exact .inr ⟨j, h1, by unfold whereM; rw [h2]; simp, h3⟩
theorem roadF_no {sl : List Int} {h at_ m : Nat} (hm : m < 32) (he : probe h m = at_) : ∀ (n j : Nat), j ≤ m → m < j + n → roadF sl at_ n (probe h j) = true → ∀ m', j ≤ m' → m' < m → gi sl (probe h m') ≠ -1
  | 0, j, h1, h2, h3, m', h4, h5 => by omega
  | n + 1, j, h1, h2, h3, m', h4, h5 => by
    unfold roadF at h3
    rw [if_neg (fun e => by have := probe_inj (by omega) hm (e.trans he.symm); omega)] at h3
    split at h3
    · cases h3
    · rename_i hf
      rw [probe_step] at h3
      by_cases hj : m' = j
      · subst hj; exact hf
      · exact roadF_no hm he n (j + 1) (by omega) (by omega) h3 m' (by omega) h5
theorem roadF_yes {sl : List Int} {h at_ m : Nat} (he : probe h m = at_) : ∀ (n j : Nat), j ≤ m → m < j + n → (∀ m', j ≤ m' → m' < m → gi sl (probe h m') ≠ -1) → roadF sl at_ n (probe h j) = true
  | 0, j, h1, h2, h3 => by omega
  | n + 1, j, h1, h2, h3 => by
    unfold roadF
    split
    · rfl
    · rename_i hne
      have hj : j ≠ m := fun e => hne (e ▸ he)
      rw [if_neg (h3 j (Nat.le_refl _) (by omega)), probe_step]
      exact roadF_yes he n (j + 1) (by omega) (by omega) (fun m' h4 h5 => h3 m' (by omega) h5)
theorem rtblB_ok {g : List Sym} {sl : List Int} {fs : List (List Int)} : rtblB g sl fs = true ↔ TblOk g sl fs := by
  constructor
  · intro h
    simp only [rtblB, Bool.and_eq_true, decide_eq_true_eq, beq_iff_eq] at h
    obtain ⟨h1, h2, h3, h4, h5, h6⟩ := h
    have he : ∀ (k : Nat) (a : List Int), fs[k]? = some a → factB g a = true ∧ whereM fs a = k ∧ 0 ≤ lastM sl k ∧ roadF sl (lastM sl k).toNat 32 ((hashM a).toNat % 32) = true := fun k a ha => by
      have := List.all_eq_true.1 h6 k (List.mem_range.2 (lt_at ha))
      simp only [eachB, ha, Bool.and_eq_true, decide_eq_true_eq, beq_iff_eq] at this
      exact this
    have hl : ∀ (k : Nat) (a : List Int), fs[k]? = some a → ∃ j, j < 32 ∧ gi sl j = k ∧ lastM sl k = (j : Int) := fun k a ha => by
      rcases lastM_is sl (k : Int) with ⟨_, h7⟩ | ⟨j, h7, h8, h9⟩
      · have := (he k a ha).2.2.1; omega
      · exact ⟨j, by omega, h8, h9⟩
    have hcov : ∀ k : Nat, k < fs.length → (k : Int) ∈ sl := fun k hk => by
      obtain ⟨a, ha⟩ := at_lt hk
      obtain ⟨j, h7, h8, _⟩ := hl k a ha
      rw [← h8]; exact gi_mem (by omega)
    refine ⟨h1, h2, h3, fun x hx => ?_, inj_of (by rw [taken_cnt] at h5; omega) hcov, fun a ha => ?_, fun i j a hi hj => ?_, fun k a ha => ?_⟩
    · have := List.all_eq_true.1 h4 x hx
      simp at this
      omega
    · obtain ⟨k, hk, rfl⟩ := List.getElem_of_mem ha
      exact (he k _ (by simp [hk])).1
    · have e1 := (he i a hi).2.1
      have e2 := (he j a hj).2.1
      omega
    · obtain ⟨j, j1, j2, j3⟩ := hl k a ha
      obtain ⟨m, m1, m2⟩ := probe_onto (hashM a).toNat j1
      have hr := (he k a ha).2.2.2
      rw [j3] at hr
      have h7 : (hashM a).toNat % 32 = probe (hashM a).toNat 0 := rfl
      rw [h7] at hr
      exact ⟨m, m1, by rw [m2]; exact j2, fun m' hm' => roadF_no m1 (by rw [m2]; simp) 32 0 (Nat.zero_le _) (by omega) hr m' (Nat.zero_le _) hm'⟩
  · intro t
    have hcov : ∀ k : Nat, k < fs.length → (k : Int) ∈ sl := fun k hk => by
      obtain ⟨a, ha⟩ := at_lt hk
      obtain ⟨m, h1, h2, _⟩ := t.road k a ha
      rw [← h2]
      exact gi_mem (by rw [t.len]; exact Nat.mod_lt _ (by omega))
    have hc : cnt sl = fs.length := by
      have h1 := covers_le _ _ hcov
      have h2 := cnt_le fs.length sl (fun x hx => by rcases t.rng x hx with h | h | h <;> omega) t.inj
      omega
    simp only [rtblB, Bool.and_eq_true, decide_eq_true_eq, beq_iff_eq]
    refine ⟨t.sg, t.len, t.most, List.all_eq_true.2 fun x hx => ?_, by rw [taken_cnt]; omega, List.all_eq_true.2 fun k hk => ?_⟩
    · rcases t.rng x hx with h | h | h <;> simp <;> omega
    · obtain ⟨a, ha⟩ := at_lt (List.mem_range.1 hk)
      obtain ⟨m, h1, h2, h3⟩ := t.road k a ha
      have hp : probe (hashM a).toNat m < sl.length := by rw [t.len]; exact Nat.mod_lt _ (by omega)
      have hlast : lastM sl k = (probe (hashM a).toNat m : Int) := by
        rcases lastM_is sl (k : Int) with ⟨h7, _⟩ | ⟨j, h7, h8, h9⟩
        · exact (h7 (h2 ▸ gi_mem hp)).elim
        · rw [h9, inj_gi t.inj h7 hp (by omega) (by omega)]
      have hwh : whereM fs a = k := by
        rcases whereM_is fs a with ⟨h7, _⟩ | ⟨j, h7, h8, _⟩
        · exact (h7 (List.mem_of_getElem? ha)).elim
        · rw [h8, t.dist _ _ _ h7 ha]
      simp only [eachB, ha, Bool.and_eq_true, decide_eq_true_eq, beq_iff_eq]
      refine ⟨t.fact a (List.mem_of_getElem? ha), hwh, by rw [hlast]; omega, ?_⟩
      rw [hlast]
      exact roadF_yes (h := (hashM a).toNat) (m := m) (Int.toNat_natCast _).symm 32 0 (Nat.zero_le _) (by omega) (fun m' _ hm' => h3 m' hm')
theorem tbl_same (g : List Sym) (sl : List Int) (fs : List (List Int)) : rtblB g sl fs = tblB g sl fs := by
  rw [Bool.eq_iff_iff, rtblB_ok, tblB_ok]
theorem TblOk.has {g : List Sym} {sl : List Int} {fs : List (List Int)} (t : TblOk g sl fs) (a : List Int) : 0 ≤ slotM sl fs a ↔ a ∈ fs := by
  constructor
  · intro h
    obtain ⟨m, _, _, _, _, h5, _⟩ := slotF_is 32 0 h
    exact List.mem_of_getElem? h5
  · intro h
    obtain ⟨k, hk, rfl⟩ := List.getElem_of_mem h
    obtain ⟨m, _, h2, _⟩ := t.slot (k := k) (a := fs[k]) (by simp [hk])
    rw [h2]; omega
theorem where_has (fs : List (List Int)) (a : List Int) : 0 ≤ whereM fs a ↔ a ∈ fs := by
  rcases whereM_is fs a with ⟨h1, h2⟩ | ⟨j, h1, h2, _⟩
  · rw [h2]; simp [h1]
  · rw [h2]; simp [List.mem_of_getElem? h1]
theorem has_same (g : List Sym) (sl : List Int) (fs : List (List Int)) (a : List Int) : ((tblB g sl fs && factB g a) && decide (0 ≤ slotM sl fs a)) = ((rtblB g sl fs && factB g a) && decide (0 ≤ whereM fs a)) := by
  rw [tbl_same]
  cases ht : tblB g sl fs
  · simp
  · have := (tblB_ok.1 ht).has a
    rw [show (decide (0 ≤ slotM sl fs a)) = decide (0 ≤ whereM fs a) by rw [decide_eq_decide, this, where_has]]
end Go.Qu

/- Facts: for every input the law returns true. No condition. -/
set_option linter.unusedVariables false
set_option linter.unusedSimpArgs false
set_option maxRecDepth 100000
namespace Go.Proofs.YtckhlalpnginjaaDoor.Ab
open Go Go.Ab Go.Qu Go.Proofs
attribute [local simp] and_assoc
theorem w_awake : C 20 [] = some (iB true, []) := W_ev (n := 60) (by kernel_rfl)
theorem fl_fresh (fs : List Row) : fl (fs.map fresh) = fl fs := by simp [fl, fresh]
theorem law_facts (z z' zs zf : Bool) (g : List Sym) (e e' es ef : List D) {sl a : List Int} {fs : List Row} (hsl : Len sl) (hfs : fs.length * 24 ≤ 140737488351232) (hrows : ∀ r ∈ fs, Len r.l) : C 3 [iG z g e, iT zs sl es zf fs ef, iS z' a e'] = some (iB true, [iG z g e, iT zs sl es zf fs ef, iS z' a e']) := by
  refine wfn (lk := []) rfl rfl (fnW_way (q3 _ _ z (syms g) e zs (ints sl) es zf (rws fs) ef z' (ints a) e' _) ?_)
  have h1 := w_copytable zs zf es ef hsl hfs hrows
  have h2 := w_fhash z z' g e e' a
  have h3 := w_rhash z z' g e e' a
  have h4 := w_has zs zf es ef hsl hfs hrows z z' g e e' a
  have h5 := w_rhas zs zf es ef hsl hfs hrows z z' g e e' a
  have h6 := w_tmay zs zf es ef hsl hfs hrows z g e
  have h7 := w_rtmay zs zf es ef hsl hfs hrows z g e
  have h8 := w_sametable zs zf es ef hsl hfs hrows sl (fs.map fresh) false fs.isEmpty [] []
  have h9 := w_sametable (sl := List.replicate 32 (-1)) (fs := []) false true [] [] (by unfold Len; decide) (by simp) (by simp) (List.replicate 32 (-1)) [] false true [] []
  rw [← has_same, tbl_same] at h5
  rw [tbl_same] at h7
  simp only [fl_fresh, and_self, decide_true] at h8 h9
  generalize tblB g sl (fl fs) = B at *
  generalize hA : factB g a = A at *
  generalize (B && A && decide (0 ≤ slotM sl (fl fs) a)) = E at *
  have h10 := w_new
  have h11 := w_rnew
  generalize List.replicate 32 (-1 : Int) = N at h9 h10 h11
  simp only [iT, rws_nil] at h9
  cases E <;> cases B <;> simp [-Bool.exists_bool, h1, h2, h3, h4, h5, h6, h7, h8, h9, h10, h11, w_awake]
theorem good_table {n : Nat} {x : D} (h : Go.Ab.Good Tryd.prog (n + 4) 26 x) : ∃ zs sl zf fs, x = .agg [.sl 1 zs (ints sl) [], .sl 1 zf (rws fs) []] ∧ Len sl ∧ fs.length * 24 ≤ 140737488351232 ∧ ∀ r ∈ fs, Len r.l := by
  unfold Go.Ab.Good at h
  rw [Tryd.underlying26] at h
  obtain ⟨ys, rfl, y0, r0, rfl, h0, y1, r1, rfl, h1, rfl⟩ := h
  obtain ⟨zs, sl, rfl, hsl⟩ := good_ints h0
  obtain ⟨zf, fs, rfl, hfs, hr⟩ := good_rows h1
  exact ⟨zs, sl, zf, fs, rfl, hsl, hfs, hr⟩
theorem call_facts (y0 y1 y2 : D) (g0 : Go.Ab.Good Tryd.prog 12 22 y0) (g1 : Go.Ab.Good Tryd.prog 12 26 y1) (g2 : Go.Ab.Good Tryd.prog 12 23 y2) : ∃ outs, C 3 [.d y0, .d y1, .d y2] = some (iB true, outs) := by
  obtain ⟨z, g, rfl⟩ := good_sig g0
  obtain ⟨zs, sl, zf, fs, rfl, hsl, hfs, hr⟩ := good_table g1
  obtain ⟨z', a, rfl, _⟩ := good_ints g2
  exact ⟨_, law_facts z z' zs zf g [] [] [] [] hsl hfs hr⟩
end Go.Proofs.YtckhlalpnginjaaDoor.Ab
