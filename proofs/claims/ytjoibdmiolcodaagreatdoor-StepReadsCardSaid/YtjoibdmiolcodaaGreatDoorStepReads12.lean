/- Itoa, Atoi, Join, Split: what they tell, by the library's contracts. Conditions: the library's variables are as they were laid. -/
import Derived.Lib.SmallJoins
import Derived.Shelf.Strconv.AtoiAll
import Derived.Shelf.Strconv.Itoa3
import Derived.Shelf.Strings.OnBuilder
import Derived.Shelf.Strings.Split
import Derived.Test.YtjoibdmiolcodaaGreatDoorStepReads0
import Derived.Test.YtjoibdmiolcodaaGreatDoorStepReads1
import Derived.Test.YtjoibdmiolcodaaGreatDoorStepReads2
import Derived.Test.YtjoibdmiolcodaaGreatDoorStepReads3
import Derived.Test.YtjoibdmiolcodaaGreatDoorStepReads4
import Derived.Test.YtjoibdmiolcodaaGreatDoorStepReads5
import Derived.Test.YtjoibdmiolcodaaGreatDoorStepReads6
import Derived.Test.YtjoibdmiolcodaaGreatDoorStepReads7
import Derived.Test.YtjoibdmiolcodaaGreatDoorStepReads8
import Derived.Test.YtjoibdmiolcodaaGreatDoorStepReads9
import Derived.Test.YtjoibdmiolcodaaGreatDoorStepReads10
import Derived.Test.YtjoibdmiolcodaaGreatDoorStepReads11
set_option linter.unusedVariables false
set_option linter.unusedSimpArgs false
namespace Go.Ab
open Go Go.Proofs Go.Shelf Go.RowKit

/-- Data that are handed in. -/
theorem rl_nil {H : Fz} {w : World} {vs : List Value} {bs : List Nat} (h : IV.RepL H w [] vs bs) : vs = [] ∧ bs = [] := by
  unfold IV.RepL at h; exact h
theorem rl_cons {H : Fz} {w : World} {x : D} {xs : List IV} {vs : List Value} {bs : List Nat} (h : IV.RepL H w (.d x :: xs) vs bs) : ∃ v r, vs = v :: r ∧ x.RepV H v ∧ IV.RepL H w xs r bs := by
  unfold IV.RepL at h
  obtain ⟨v, r, b1, b2, rfl, rfl, h1, h2⟩ := h
  unfold IV.Rep at h1
  obtain ⟨h1, rfl⟩ := h1
  exact ⟨v, r, rfl, h1, by simpa using h2⟩
theorem rl_cons' {H : Fz} {w : World} {x : D} {xs : List IV} {v : Value} {r : List Value} (h1 : x.RepV H v) (h2 : IV.RepL H w xs r []) : IV.RepL H w (.d x :: xs) (v :: r) [] := by
  unfold IV.RepL
  exact ⟨v, r, [], [], rfl, rfl, by unfold IV.Rep; exact ⟨h1, rfl⟩, h2⟩
theorem rl_nil' {H : Fz} {w : World} : IV.RepL H w [] [] [] := by unfold IV.RepL; exact ⟨rfl, rfl⟩
theorem repV_str {H : Fz} {s : ByteArray} {v : Value} (h : D.RepV H (.str s) v) : v = .string s := by
  simpa [D.RepV, D.Rep] using h
theorem repV_int {H : Fz} {k : IntKind} {n : Int} {v : Value} (h : D.RepV H (.int k n) v) : v = .int k n := by
  simpa [D.RepV, D.Rep] using h
theorem repV_str' {H : Fz} {s : ByteArray} : D.RepV H (.str s) (.string s) := by simp [D.RepV, D.Rep]
theorem repV_int' {H : Fz} {k : IntKind} {n : Int} : D.RepV H (.int k n) (.int k n) := by simp [D.RepV, D.Rep]
theorem framed_below {w w' : World} {bs : List Nat} (h : Below w.heap.size w w') : Framed w bs w' :=
  ⟨h.os, h.tape, h.output, h.size, fun k hk _ => h.block k hk⟩
theorem sub_below {H : Fz} {w w' : World} (hs : H.sub w) (h : Below w.heap.size w w') : H.sub w' := fun k o hk => by
  have h5 := hs k o hk
  exact (h.block k (Array.getElem?_eq_some_iff.1 h5).1).trans h5

/-- A global's cells, as the machine reads them. -/
theorem glob_var {P : Program} {H : Fz} {G : Globs} {w : World} (hg : GlobOk H G) (hs : H.sub w) {g : Nat} {cs : List D} (hc : assoc none (G.map fun p => (p.1, some p.2)) g = some cs) :
    ∃ vs t z, D.RepL H cs vs ∧ w.heap[g]? = some (.cells vs.toArray t z) := by
  obtain ⟨vs, h1, _, _, t, z, h4⟩ := hg g cs hc
  exact ⟨vs, t, z, h1, hs _ _ h4⟩
theorem rl_ints {H : Fz} {k : IntKind} : ∀ {zs : List Int} {vs : List Value}, D.RepL H (zs.map fun z => .int k z) vs → vs = zs.map fun z => Value.int k z
  | [], vs, h => by unfold D.RepL at h; exact h
  | z :: zs, vs, h => by
    have h : D.RepL H (.int k z :: zs.map fun z => .int k z) vs := h
    unfold D.RepL at h
    obtain ⟨a, b, rfl, h1, h2⟩ := h
    unfold D.Rep at h1
    subst h1
    rw [rl_ints h2]
    rfl

/-! ### strconv.Itoa -/
def itoaP (args : List IV) : Option (IV × List IV) :=
  match args with
  | [.d (.int .i64 n)] => if -9223372036854775808 ≤ n ∧ n ≤ 9223372036854775807 then some (.d (.str ⟨(Lib.itoa n).toArray⟩), [.d (.int .i64 n)]) else none
  | _ => none
theorem itoa_spec {P : Program} {ρ : Ren} {G : Globs} (L : LaysM.n171 P ρ) {g : Nat} (hg : P.globalNamed "internal/strconv.uint64pow10" = some g) (hG : assoc none (G.map fun p => (p.1, some p.2)) g = some (Lib.pow10Tab.map fun z => .int .u64 z)) {args : List IV} {r : IV} {outs : List IV} (h : itoaP args = some (r, outs)) : CallSpec P G (ρ.f 171) args r outs := by
  unfold itoaP at h
  split at h
  case h_2 => cases h
  rename_i n
  split at h
  case isFalse => cases h
  rename_i hn
  simp only [Option.some.injEq, Prod.mk.injEq] at h
  obtain ⟨rfl, rfl⟩ := h
  intro H w vs bs hglob hsub hargs hnd hfree
  obtain ⟨v, r, rfl, h1, h2⟩ := rl_cons hargs
  obtain ⟨rfl, rfl⟩ := rl_nil h2
  obtain rfl := repV_int h1
  have htab : Lib.TabIs P w "internal/strconv.uint64pow10" .u64 Lib.pow10Tab := by
    obtain ⟨vs, t, z, e1, e2⟩ := glob_var (P := P) hglob hsub hG
    unfold Lib.TabIs World.var?
    rw [hg, rl_ints e1] at *
    simp only [Option.bind_some, e2]
  refine (Any.strconv_Itoa L n hn.1 hn.2 w htab).mono ?_
  rintro e w' ⟨rfl, k, os, rfl⟩
  have hb : Below w.heap.size w (Sort.grow (w.drewN k) os) := ⟨rfl, rfl, rfl, by simp [Sort.grow, World.drewN], fun j hj => by
    simp only [Sort.grow, World.drewN]
    rw [Array.getElem?_append_left hj]⟩
  refine ⟨_, H, [], [], rfl, Fz.le_refl H, sub_below hsub hb, framed_below hb, fun _ _ _ => rfl, rl_cons' repV_int' rl_nil', ?_, by simp, by simp, by simp⟩
  unfold IV.Rep
  exact ⟨repV_str', rfl⟩

/-! ### strconv.Atoi -/
def atoiV (s : ByteArray) : Int × Bool :=
  match Lib.atoiAll s.data.toList with
  | .ok v => (v, true)
  | .syntax => (0, false)
  | .range => (Lib.atoiSat s.data.toList, false)
def atoiP (args : List IV) : Option (IV × List IV) :=
  match args with
  | [.d (.str s)] => if s.size ≤ 281474976710656 then some (.tup [.d (.int .i64 (atoiV s).1), .d (.ifc (atoiV s).2)], [.d (.str s)]) else none
  | _ => none
theorem repV_ifc {H : Fz} {v : Value} {b : Bool} (h : (b = true ∧ v = .nilIface) ∨ (b = false ∧ ∃ t p, v = .iface t p)) : D.RepV H (.ifc b) v := by
  unfold D.RepV D.Rep
  exact ⟨v, rfl, h⟩
theorem atoi_spec {P : Program} {ρ : Ren} {G : Globs} (L : LaysC.n172 P ρ) (hG1 : assoc none (G.map fun p => (p.1, some p.2)) (ρ.g 15) = some [.ifc false]) (hG2 : assoc none (G.map fun p => (p.1, some p.2)) (ρ.g 16) = some [.ifc false]) {args : List IV} {r : IV} {outs : List IV} (h : atoiP args = some (r, outs)) : CallSpec P G (ρ.f 172) args r outs := by
  unfold atoiP at h
  split at h
  case h_2 => cases h
  rename_i s
  split at h
  case isFalse => cases h
  rename_i hn
  simp only [Option.some.injEq, Prod.mk.injEq] at h
  obtain ⟨rfl, rfl⟩ := h
  intro H w vs bs hglob hsub hargs hnd hfree
  obtain ⟨v, r, rfl, h1, h2⟩ := rl_cons hargs
  obtain ⟨rfl, rfl⟩ := rl_nil h2
  obtain rfl := repV_str h1
  have fin : ∀ (n : Int) (u : Value) (b : Bool) (w' : World), ((b = true ∧ u = .nilIface) ∨ (b = false ∧ ∃ t p, u = .iface t p)) → atoiV s = (n, b) → Below w.heap.size w w' →
      ∃ v H' b2 b3, Ending.returned (.tuple #[.int .i64 n, u]) = .returned v ∧ H.le H' ∧ H'.sub w' ∧ Framed w [] w' ∧ (∀ k, k < w.heap.size → k ∉ [] → H' k = H k) ∧
      IV.RepL H' w' [.d (.str s)] [.string s] b3 ∧ IV.Rep H' w' (.tup [.d (.int .i64 (atoiV s).1), .d (.ifc (atoiV s).2)]) v b2 ∧ (b3 ++ b2).Nodup ∧ (∀ b ∈ b3, H' b = none ∧ (w.heap.size ≤ b ∨ b ∈ [])) ∧ ∀ b ∈ b2, H' b = none ∧ (w.heap.size ≤ b ∨ b ∈ []) := by
    intro n u b w' hu hv hb
    refine ⟨_, H, [], [], rfl, Fz.le_refl H, sub_below hsub hb, framed_below hb, fun _ _ _ => rfl, rl_cons' repV_str' rl_nil', ?_, by simp, by simp, by simp⟩
    rw [hv]
    unfold IV.Rep
    exact ⟨_, rfl, rl_cons' repV_int' (rl_cons' (repV_ifc hu) rl_nil')⟩
  have gv : ∀ {g}, assoc none (G.map fun p => (p.1, some p.2)) g = some [.ifc false] → ∃ ev, w.cell? ⟨g, 0, none⟩ = some ev ∧ ∃ te pe, ev = .iface te pe := by
    intro g hg
    obtain ⟨vs, t, z, e1, e2⟩ := glob_var (P := P) hglob hsub hg
    unfold D.RepL at e1
    obtain ⟨a, b, rfl, e3, e4⟩ := e1
    unfold D.RepL at e4
    subst e4
    unfold D.Rep at e3
    obtain ⟨ev, rfl, e5⟩ := e3
    simp only [Bool.false_eq_true, false_and, false_or, true_and] at e5
    refine ⟨ev, ?_, e5⟩
    unfold World.cell?
    simp [e2]
  cases hc : Lib.atoiAll s.data.toList with
  | ok v =>
    refine (Any.strconv_Atoi_ok L s (by omega) v hc w).mono ?_
    rintro e w' ⟨rfl, hw⟩
    refine fin v .nilIface true w' (.inl ⟨rfl, rfl⟩) (by unfold atoiV; rw [hc]) ?_
    rcases hw with rfl | ⟨t, rfl⟩
    · exact Below.refl _ _
    · exact Joins.below_bytesWorld _ _ _ _ (Nat.le_refl _)
  | «syntax» =>
    obtain ⟨ev, g1, g2⟩ := gv hG1
    refine (Any.strconv_Atoi_syntax L s hn hc ev w g1 (.inr g2)).mono ?_
    rintro e w' ⟨N, rfl, _, _, hb⟩
    exact fin 0 _ false w' (.inr ⟨rfl, _, _, rfl⟩) (by unfold atoiV; rw [hc]) hb
  | range =>
    obtain ⟨ev, g1, g2⟩ := gv hG2
    refine (Any.strconv_Atoi_range L s hn hc ev w g1 (.inr g2)).mono ?_
    rintro e w' ⟨N, rfl, _, _, hb⟩
    exact fin _ _ false w' (.inr ⟨rfl, _, _, rfl⟩) (by unfold atoiV; rw [hc]) hb

theorem addr_add (b o j : Nat) : (⟨b, o, none⟩ : Addr).add j = ⟨b, o + j, none⟩ := by
  unfold Addr.add; split <;> simp_all
/-! ### strings.Join -/
def strsOf : List D → Option (List ByteArray)
  | [] => some []
  | .str s :: r => (strsOf r).map (s :: ·)
  | _ => none
def joinB (xs : List ByteArray) (sep : ByteArray) : ByteArray := ⟨(Lib.join (xs.map (·.data.toList)) sep.data.toList).toArray⟩
def joinP (args : List IV) : Option (IV × List IV) :=
  match args with
  | [.d (.sl 1 nl xs ext), .d (.str sep)] => match strsOf xs with
    | some ss => if (Lib.join (ss.map (·.data.toList)) sep.data.toList).length ≤ 140737488355328 ∧ ss.length ≤ 140737488355328 then some (.d (.str (joinB ss sep)), [.d (.sl 1 nl xs ext), .d (.str sep)]) else none
    | none => none
  | _ => none
theorem strsOf_rep {H : Fz} : ∀ {xs : List D} {ss : List ByteArray} {c : List Value}, strsOf xs = some ss → D.RepL H xs c → c = ss.map Value.string ∧ xs.length = ss.length
  | [], ss, c, h, hc => by
    simp only [strsOf, Option.some.injEq] at h
    subst h
    unfold D.RepL at hc
    exact ⟨hc, rfl⟩
  | x :: xs, ss, c, h, hc => by
    unfold strsOf at h
    split at h
    · rename_i e; cases e
    · rename_i s r e
      cases e
      simp only [Option.map_eq_some_iff] at h
      obtain ⟨ss', h1, rfl⟩ := h
      unfold D.RepL at hc
      obtain ⟨a, b, rfl, e1, e2⟩ := hc
      unfold D.Rep at e1
      obtain ⟨e3, e4⟩ := strsOf_rep h1 e2
      subst e1 e3
      exact ⟨rfl, by simp [e4]⟩
    · cases h
theorem join_spec {P : Program} {ρ : Ren} {G : Globs} (L : Lays.n156 P ρ) (X : Builder.Extra P ρ) {args : List IV} {r : IV} {outs : List IV} (h : joinP args = some (r, outs)) : CallSpec P G (ρ.f 156) args r outs := by
  unfold joinP at h
  split at h
  case h_2 => cases h
  rename_i nl xs ext sep
  split at h
  case h_2 => cases h
  rename_i ss hss
  split at h
  case isFalse => cases h
  rename_i hn
  simp only [Option.some.injEq, Prod.mk.injEq] at h
  obtain ⟨rfl, rfl⟩ := h
  intro H w vs bs hglob hsub hargs hnd hfree
  obtain ⟨v, r, rfl, h1, h2⟩ := rl_cons hargs
  obtain ⟨v2, r2, rfl, h3, h4⟩ := rl_cons h2
  obtain ⟨rfl, rfl⟩ := rl_nil h4
  obtain rfl := repV_str h3
  have fin : ∀ e w', e = Ending.returned (.string (joinB ss sep)) → Below w.heap.size w w' →
      ∃ v' H' b2 b3, e = .returned v' ∧ H.le H' ∧ H'.sub w' ∧ Framed w [] w' ∧ (∀ k, k < w.heap.size → k ∉ [] → H' k = H k) ∧
      IV.RepL H' w' [.d (.sl 1 nl xs ext), .d (.str sep)] [v, .string sep] b3 ∧ IV.Rep H' w' (.d (.str (joinB ss sep))) v' b2 ∧ (b3 ++ b2).Nodup ∧ (∀ b ∈ b3, H' b = none ∧ (w.heap.size ≤ b ∨ b ∈ [])) ∧ ∀ b ∈ b2, H' b = none ∧ (w.heap.size ≤ b ∨ b ∈ []) := by
    intro e w' he hb
    subst he
    refine ⟨_, H, [], [], rfl, Fz.le_refl H, sub_below hsub hb, framed_below hb, fun _ _ _ => rfl, rl_cons' h1 (rl_cons' repV_str' rl_nil'), ?_, by simp, by simp, by simp⟩
    unfold IV.Rep
    exact ⟨repV_str', rfl⟩
  have h1' := h1
  simp only [D.RepV] at h1'
  unfold D.Rep at h1'
  rcases h1' with ⟨_, e1, _, e2⟩ | ⟨_, a, cap, c1, c2, e2, hcap, hmax, hl, hr1, hr2, _, _⟩
  · simp only [List.cons.injEq, and_true] at e2
    subst e1 e2
    simp only [strsOf, Option.some.injEq] at hss
    subst hss
    refine (Any.strings_Join_none L X none 0 sep w).mono ?_
    rintro e w' ⟨he, rfl⟩
    exact fin e _ he (Below.refl _ _)
  · simp only [List.cons.injEq, and_true] at e2
    subst e2
    obtain ⟨e3, e4⟩ := strsOf_rep hss hr1
    by_cases h0 : ss = []
    · subst h0
      have e5 : xs.length = 0 := by simpa using e4
      rw [e5]
      refine (Any.strings_Join_none L X (some a) cap sep w).mono ?_
      rintro e w' ⟨he, rfl⟩
      have := fin e _ he (Below.refl _ _)
      rw [e5] at this
      exact this
    · have hcell : ∀ (j : Nat) x, ss[j]? = some x → w.cell? (a.add j) = some (.string x) := fun j x hj => by
        refine cellH_sub hsub (hl j _ ?_)
        rw [List.getElem?_append_left (by rw [e3]; simpa using (List.getElem?_eq_some_iff.1 hj).1), e3]
        simp [hj]
      obtain ⟨s0, hs0⟩ : ∃ s0, ss[0]? = some s0 := by
        cases ss with
        | nil => exact (h0 rfl).elim
        | cons s _ => exact ⟨s, rfl⟩
      have hz := hcell 0 s0 hs0
      have hspot : a.spot = none := by
        unfold World.cell? at hz
        split at hz
        · split at hz
          · cases hz
          · rename_i hh
            simpa [Addr.add] using hh
        · cases hz
      have hblk : a.block < w.heap.size := by
        unfold World.cell? at hz
        split at hz
        · rename_i hh
          exact (Array.getElem?_eq_some_iff.1 hh).1
        · cases hz
      obtain ⟨bk, o, sp⟩ := a
      simp only at hspot hblk
      subst hspot
      have := Any.strings_Join L X bk o cap ss sep w (fun j x hj => by rw [← addr_add]; exact hcell j x hj) hblk hn.2 (by omega) hn.1
      rw [← e4] at this
      refine this.mono ?_
      rintro e w' ⟨he, hb⟩
      exact fin e w' he hb

/-! ### strings.Split -/
def splitV (s sep : ByteArray) : List ByteArray := Lib.splitB sep 0 (Lib.countB s sep) s
def splitP (args : List IV) : Option (IV × List IV) :=
  match args with
  | [.d (.str s), .d (.str sep)] => if s.size < 4294967281 ∧ 1 ≤ sep.size then some (.d (.sl 1 false ((splitV s sep).map .str) []), [.d (.str s), .d (.str sep)]) else none
  | _ => none
theorem rl_strs {H : Fz} : ∀ (ss : List ByteArray), D.RepL H (ss.map .str) (ss.map Value.string)
  | [] => by unfold D.RepL; rfl
  | s :: ss => by
    show D.RepL H (.str s :: ss.map .str) _
    unfold D.RepL
    exact ⟨[.string s], _, rfl, by unfold D.Rep; rfl, rl_strs ss⟩
theorem split_spec {P : Program} {ρ : Ren} {G : Globs} (L : Lays.n146 P ρ) (hi9 : (P.info? (ρ.t 9)).map (fun i => (i.zero, i.size, i.bytes)) = some (some (.string ByteArray.empty), 1, 16)) (hG : assoc none (G.map fun p => (p.1, some p.2)) (ρ.g 1) = some [.anyi .i64]) {args : List IV} {r : IV} {outs : List IV} (h : splitP args = some (r, outs)) : CallSpec P G (ρ.f 146) args r outs := by
  unfold splitP at h
  split at h
  case h_2 => cases h
  rename_i s sep
  split at h
  case isFalse => cases h
  rename_i hn
  simp only [Option.some.injEq, Prod.mk.injEq] at h
  obtain ⟨rfl, rfl⟩ := h
  intro H w vs bs hglob hsub hargs hnd hfree
  obtain ⟨v, r, rfl, h1, h2⟩ := rl_cons hargs
  obtain ⟨v2, r2, rfl, h3, h4⟩ := rl_cons h2
  obtain ⟨rfl, rfl⟩ := rl_nil h4
  obtain rfl := repV_str h1
  obtain rfl := repV_str h3
  obtain ⟨m, hm⟩ : ∃ m, w.cell? ⟨(ρ.g 1), 0, none⟩ = some (.int .i64 m) := by
    obtain ⟨vs, t, z, e1, e2⟩ := glob_var (P := P) hglob hsub hG
    unfold D.RepL at e1
    obtain ⟨a, b, rfl, e3, e4⟩ := e1
    unfold D.RepL at e4
    subst e4
    unfold D.Rep at e3
    obtain ⟨_, rfl, m, rfl⟩ := e3
    refine ⟨m, ?_⟩
    unfold World.cell?
    simp [e2]
  refine (Any.strings_Split L hi9 s sep m w hn.1 hm hn.2).mono ?_
  rintro e w' ⟨rfl, hw⟩
  generalize hob : Obj.cells ((Lib.splitB sep 0 (Lib.countB s sep) s).map Value.string).toArray (ρ.t 9) = ob at hw
  subst hw
  have hlen : (splitV s sep).length = Lib.countB s sep + 1 := Lib.splitB_all sep hn.2 0 _ s rfl
  have hnew : (w.alloc ob).heap[w.heap.size]? = some ob := heap_alloc_new w ob
  have hnone : H w.heap.size = none := Fz.none_new hsub (Nat.le_refl _)
  have hb : Below w.heap.size w (w.alloc ob) := (Below.refl _ _).alloc (Nat.le_refl _) ob
  have hle : H.le (fun k => if k = w.heap.size then some ob else H k) := fun k o hk => by
    show (if k = w.heap.size then some ob else H k) = some o
    split
    · rename_i h; subst h; rw [hnone] at hk; cases hk
    · exact hk
  refine ⟨_, fun k => if k = w.heap.size then some ob else H k, [], [], rfl, hle, fun k o hk => ?_, framed_below hb, fun k hk _ => if_neg (by omega), rl_cons' repV_str' (rl_cons' repV_str' rl_nil'), ?_, by simp, by simp, by simp⟩
  · have hk : (if k = w.heap.size then some ob else H k) = some o := hk
    split at hk
    · rename_i h
      rw [h, hnew]
      exact hk
    · exact sub_below hsub hb k o hk
  · unfold IV.Rep
    refine ⟨?_, rfl⟩
    unfold D.RepV
    unfold D.Rep
    refine .inr ⟨rfl, ⟨w.heap.size, 0, none⟩, Lib.countB s sep + 1, (splitV s sep).map Value.string, [], by simp [hlen], by simp [hlen], ?_, fun j u hj => ?_, rl_strs _, by unfold D.RepL; rfl, by simp [D.width], by simp⟩
    · have := Lib.countB_le sep hn.2 s.size s (Nat.le_refl _)
      unfold maxLen
      omega
    · rw [List.append_nil] at hj
      rw [addr_add]
      unfold cellH
      simp only [if_true, ← hob, Option.isSome_none, Bool.false_eq_true, if_false, Nat.zero_add]
      simpa [splitV] using hj
end Go.Ab

/- Written by a program of this session (wip/tools/AbSym.lean). Not trusted: Lean checks it. -/
set_option maxRecDepth 100000
set_option linter.unusedVariables false
namespace Go.Proofs.YtjoibdmiolcodaaGreatDoor.Ab
open Go Go.Ab Go.Proofs
def k3 : Keep := assoc [] [(0, [0, 3]), (1, [0, 3, 5]), (2, [0, 3, 5, 6, 7]), (3, [0, 3, 5, 6, 7, 8, 9]), (4, [0, 3, 5, 6, 7, 8, 9, 10]), (5, [4])]
noncomputable def d3 : FnD := ⟨54, [.tmp 4], Tryz.f3.body.getD .skip, k3, false, []⟩
def k4 : Keep := assoc [] [(0, [0, 1]), (1, [0, 1, 11]), (2, [4]), (3, [0, 1, 5, 6]), (4, [5, 6, 7, 8]), (5, [4])]
noncomputable def d4 : FnD := ⟨36, [.tmp 4], Tryz.f4.body.getD .skip, k4, false, []⟩
def k5 : Keep := assoc [] [(0, [0]), (1, [0, 3]), (2, [0, 3, 4]), (3, [0, 3, 4, 9]), (4, [0, 3, 4]), (5, [0, 3, 4, 5]), (6, [0, 3, 4, 5]), (7, [0, 3, 4]), (8, [2])]
noncomputable def d5 : FnD := ⟨25, [.tmp 2], Tryz.f5.body.getD .skip, k5, false, [(2, .own 28), (3, .own 28)]⟩
def k6 : Keep := assoc [] [(0, [0, 3]), (1, [3, 9]), (2, [4, 5]), (3, [4, 5])]
noncomputable def d6 : FnD := ⟨12, [.tmp 4, .tmp 5], Tryz.f6.body.getD .skip, k6, false, []⟩
def k7 : Keep := assoc [] [(0, [0, 3]), (1, [3, 13]), (2, [4, 5]), (3, [3, 6]), (4, [3, 6]), (5, [3, 6]), (6, [3, 6, 7]), (7, [3, 6, 7, 46]), (8, [3, 6, 7]), (9, [3, 6, 7]), (10, [6]), (11, [6, 8]), (12, [6, 8, 9]), (13, [6, 8, 9, 65]), (14, [6, 8, 9]), (15, [6, 8, 9, 69]), (16, [6, 8, 9]), (17, [6, 8, 9]), (18, [4, 5])]
noncomputable def d7 : FnD := ⟨80, [.tmp 4, .tmp 5], Tryz.f7.body.getD .skip, k7, false, [(4000018, .no), (4000019, .no)]⟩
def k8 : Keep := assoc [] [(0, [0, 3]), (1, [0, 3, 32]), (2, [4]), (3, [0, 3, 70]), (4, [4]), (5, [4])]
noncomputable def d8 : FnD := ⟨75, [.tmp 4], Tryz.f8.body.getD .skip, k8, false, []⟩
def k9 : Keep := assoc [] [(0, [0, 3]), (1, [4])]
noncomputable def d9 : FnD := ⟨13, [.tmp 4], Tryz.f9.body.getD .skip, k9, false, []⟩
def k10 : Keep := assoc [] [(0, [0]), (1, [2])]
noncomputable def d10 : FnD := ⟨4, [.tmp 2], Tryz.f10.body.getD .skip, k10, false, []⟩
def k11 : Keep := assoc [] [(0, [0, 1]), (1, [0, 1, 10]), (2, [4]), (3, [0, 1, 5]), (4, [0, 1, 5, 14]), (5, [0, 1, 5]), (6, [0, 1, 5, 26]), (7, [4]), (8, [4])]
noncomputable def d11 : FnD := ⟨27, [.tmp 4], Tryz.f11.body.getD .skip, k11, false, []⟩
def k12 : Keep := assoc [] [(0, []), (1, [1]), (2, [1, 2, 3]), (3, [1, 2, 3, 4, 5]), (4, [1, 2, 3, 4, 5, 7]), (5, [1, 2, 3, 4, 5, 7, 9]), (6, [0])]
noncomputable def d12 : FnD := ⟨71, [.tmp 0], Tryz.f12.body.getD .skip, k12, false, []⟩
def k13 : Keep := assoc [] [(0, [0, 1, 4]), (1, [0, 1, 4, 6]), (2, [0, 1, 4, 6, 7]), (3, [0, 1, 4, 6, 7]), (4, [0, 1, 4, 6, 7]), (5, [0, 1, 4, 6, 7]), (6, [4, 7, 54]), (7, [4, 5]), (8, [4, 5])]
noncomputable def d13 : FnD := ⟨57, [.cell 4 28, .tmp 5], Tryz.f13.body.getD .skip, k13, false, []⟩
def k14 : Keep := assoc [] [(0, [0, 1, 4]), (1, [0, 1, 4, 6]), (2, [0, 1, 4, 6, 7]), (3, [0, 1, 4, 6, 7]), (4, [0, 1, 4, 6, 7]), (5, [0, 1, 4, 6, 7]), (6, [0, 1, 4, 6, 7]), (7, [0, 1, 4, 6, 7]), (8, [0, 1, 4, 6, 7]), (9, [0, 1, 4, 6, 7]), (10, [0, 1, 4, 6, 7, 8]), (11, [0, 1, 4, 6, 7, 8, 9]), (12, [0, 1, 4, 6, 7, 8, 9, 52]), (13, [0, 1, 4, 6, 7, 8, 9]), (14, [0, 1, 4, 6, 7, 8, 9]), (15, [0, 1, 4, 6, 7]), (16, [1, 4, 6, 7, 10, 11]), (17, [4, 7, 86]), (18, [4, 5]), (19, [4, 5])]
noncomputable def d14 : FnD := ⟨89, [.cell 4 28, .tmp 5], Tryz.f14.body.getD .skip, k14, false, [(7, .agg [.no, .no, .no, .no, .no, .no, .no, .no, .own 48, .no]), (3000006, .no)]⟩
def k15 : Keep := assoc [] [(0, [2, 3]), (1, [4])]
noncomputable def d15 : FnD := ⟨59, [.tmp 4], Tryz.f15.body.getD .skip, k15, false, []⟩
def k16 : Keep := assoc [] [(0, [1, 2]), (1, [2])]
noncomputable def d16 : FnD := ⟨13, [.cell 2 26], Tryz.f16.body.getD .skip, k16, false, []⟩
def k17 : Keep := assoc [] [(0, [1]), (1, [1, 3]), (2, [1, 3]), (3, [1, 3, 37, 38, 39]), (4, [1, 3, 37, 38, 39, 40]), (5, [1, 3, 5, 37, 38, 39]), (6, [1, 3, 37, 38, 39]), (7, [1, 3, 37, 38, 39]), (8, [3]), (9, [3, 6]), (10, [6, 59, 60, 61]), (11, [6, 59, 60, 61, 62]), (12, [6, 7, 8, 59, 60, 61]), (13, [6, 59, 60, 61]), (14, [6, 59, 60, 61]), (15, [2])]
noncomputable def d17 : FnD := ⟨74, [.tmp 2], Tryz.f17.body.getD .skip, k17, false, [(4000036, .no)]⟩
def k18 : Keep := assoc [] [(0, [0, 1]), (1, [0, 1]), (2, [0, 1, 5]), (3, [0, 1, 5, 14]), (4, [0, 1, 5]), (5, [0, 1, 5, 21]), (6, [0, 1, 5]), (7, [0, 1, 5]), (8, [0, 1, 5]), (9, [4])]
noncomputable def d18 : FnD := ⟨36, [.tmp 4], Tryz.f18.body.getD .skip, k18, false, [(4000019, .no)]⟩
def k19 : Keep := assoc [] [(0, [0, 1]), (1, [0, 1]), (2, [4])]
noncomputable def d19 : FnD := ⟨13, [.tmp 4], Tryz.f19.body.getD .skip, k19, false, []⟩
def k20 : Keep := assoc [] [(0, [0]), (1, [0, 4]), (2, [2]), (3, [0, 10]), (4, [2]), (5, [2])]
noncomputable def d20 : FnD := ⟨26, [.tmp 2], Tryz.f20.body.getD .skip, k20, false, []⟩
def k21 : Keep := assoc [] [(0, [0, 3]), (1, [0, 3, 32]), (2, [4]), (3, [0, 3, 5]), (4, [0, 3, 5, 37]), (5, [0, 3, 5]), (6, [0, 3, 5, 47]), (7, [4]), (8, [0, 3, 6]), (9, [0, 3, 6, 52]), (10, [0, 3, 6]), (11, [0, 3, 6, 62]), (12, [4]), (13, [0, 3, 7]), (14, [0, 3, 7, 67]), (15, [0, 3, 7]), (16, [0, 3, 7, 8]), (17, [0, 3, 7, 88]), (18, [4]), (19, [9]), (20, [9, 10]), (21, [9, 10, 11]), (22, [9, 10, 11, 94]), (23, [9, 10, 11]), (24, [9, 10, 11]), (25, [4])]
noncomputable def d21 : FnD := ⟨106, [.tmp 4], Tryz.f21.body.getD .skip, k21, false, []⟩
def k22 : Keep := assoc [] [(0, [1]), (1, [2])]
noncomputable def d22 : FnD := ⟨36, [.tmp 2], Tryz.f22.body.getD .skip, k22, false, []⟩
def k23 : Keep := assoc [] [(0, [0, 3]), (1, [0, 3, 31]), (2, [4]), (3, [0, 3, 5, 6]), (4, [0, 3, 5, 6, 7, 8]), (5, [5, 6, 7, 8, 9, 10]), (6, [4])]
noncomputable def d23 : FnD := ⟨68, [.tmp 4], Tryz.f23.body.getD .skip, k23, false, []⟩
def k24 : Keep := assoc [] [(0, []), (1, [0])]
noncomputable def d24 : FnD := ⟨9, [.tmp 0], Tryz.f24.body.getD .skip, k24, false, []⟩
def k26 : Keep := assoc [] [(0, [0]), (1, [0, 10]), (2, [0]), (3, [0, 2]), (4, [0, 3, 4]), (5, [0, 3, 4]), (6, [0, 3]), (7, [0, 2])]
noncomputable def d26 : FnD := ⟨44, [.tmp 2], Tryz.f26.body.getD .skip, k26, false, []⟩
def k27 : Keep := assoc [] [(0, [0]), (1, [0, 3]), (2, [0, 3, 6, 7]), (3, [0, 3, 6, 7, 8]), (4, [0, 3, 4, 6, 7]), (5, [0, 3, 6, 7]), (6, [0, 3, 6, 7]), (7, [0, 2])]
noncomputable def d27 : FnD := ⟨21, [.tmp 2], Tryz.f27.body.getD .skip, k27, false, [(2, .own 55), (3, .own 55)]⟩
def k28 : Keep := assoc [] [(0, [0]), (1, [0, 3]), (2, [0, 3, 5, 6]), (3, [0, 3, 5, 6, 7]), (4, [0, 3, 5, 6]), (5, [0, 3, 5, 6]), (6, [0, 2])]
noncomputable def d28 : FnD := ⟨15, [.tmp 2], Tryz.f28.body.getD .skip, k28, false, [(2, .own 48), (3, .own 48)]⟩
def k29 : Keep := assoc [] [(0, [0]), (1, [0, 3]), (2, [0, 3, 4]), (3, [0, 3, 4, 11]), (4, [0, 3, 4, 5]), (5, [0, 3, 4, 5, 16]), (6, [0, 3, 4, 5]), (7, [0, 3, 4, 5, 6, 7]), (8, [0, 3, 4, 5, 6, 7, 38]), (9, [0, 3, 4, 5, 6, 7]), (10, [0, 3, 4, 5, 6, 7]), (11, [0, 3, 4, 5, 6, 7]), (12, [0, 3, 4, 5, 6, 56]), (13, [2]), (14, [0, 3, 4, 6, 58]), (15, [0, 3, 4, 6]), (16, [0, 3, 4]), (17, [0, 3, 4, 74]), (18, [2]), (19, [0, 3, 4]), (20, [2])]
noncomputable def d29 : FnD := ⟨79, [.tmp 2], Tryz.f29.body.getD .skip, k29, false, [(2, .own 3), (3, .own 3)]⟩
def k30 : Keep := assoc [] [(0, [0]), (1, [0, 12]), (2, [0]), (3, [0, 2]), (4, [0]), (5, [0, 2])]
noncomputable def d30 : FnD := ⟨34, [.tmp 2], Tryz.f30.body.getD .skip, k30, false, []⟩
def k31 : Keep := assoc [] [(0, [0]), (1, [0, 3]), (2, [0, 3, 4]), (3, [0, 3, 4, 5]), (4, [0, 3, 4, 5, 18]), (5, [0, 3, 4, 5]), (6, [0, 3, 4, 5, 6]), (7, [0, 3, 4, 5, 6]), (8, [0, 3, 4, 5]), (9, [0, 2])]
noncomputable def d31 : FnD := ⟨33, [.tmp 2], Tryz.f31.body.getD .skip, k31, false, [(2, .own 55), (3, .own 55)]⟩
def k32 : Keep := assoc [] [(0, [0]), (1, [0, 3]), (2, [0, 3, 4]), (3, [0, 3, 4, 5]), (4, [0, 3, 4, 5, 17]), (5, [0, 3, 4, 5]), (6, [0, 3, 4, 5]), (7, [0, 2])]
noncomputable def d32 : FnD := ⟨26, [.tmp 2], Tryz.f32.body.getD .skip, k32, false, [(2, .own 3), (3, .own 3)]⟩
def k33 : Keep := assoc [] [(0, [2, 3]), (1, [4])]
noncomputable def d33 : FnD := ⟨24, [.tmp 4], Tryz.f33.body.getD .skip, k33, false, []⟩
def k34 : Keep := assoc [] [(0, [0]), (1, [0, 3]), (2, [0, 3, 4]), (3, [0, 3, 4, 8]), (4, [0, 3, 4]), (5, [0, 3, 4]), (6, [2])]
noncomputable def d34 : FnD := ⟨27, [.tmp 2], Tryz.f34.body.getD .skip, k34, false, [(2, .own 55), (3, .own 55)]⟩
def k35 : Keep := assoc [] [(0, [0]), (1, [0, 3]), (2, [0, 3, 4]), (3, [0, 3, 4, 8]), (4, [0, 3, 4]), (5, [0, 3, 4]), (6, [2])]
noncomputable def d35 : FnD := ⟨20, [.tmp 2], Tryz.f35.body.getD .skip, k35, false, [(2, .own 48), (3, .own 48)]⟩
def k36 : Keep := assoc [] [(0, [0, 1]), (1, [0, 1]), (2, [0, 13, 14, 15]), (3, [0, 13, 14, 15, 16]), (4, [0, 6, 13, 14, 15]), (5, [0, 6, 7, 13, 14, 15]), (6, [0, 6, 7, 13, 14, 15, 20]), (7, [0, 6, 7, 13, 14, 15]), (8, [0, 13, 14, 15]), (9, [0, 13, 14, 15]), (10, [4])]
noncomputable def d36 : FnD := ⟨33, [.tmp 4], Tryz.f36.body.getD .skip, k36, false, []⟩
def k39 : Keep := assoc [] [(0, [0]), (1, [0, 18]), (2, [2]), (3, [0, 3]), (4, [0, 3, 22]), (5, [0, 3]), (6, [0, 3, 41]), (7, [2]), (8, [2])]
noncomputable def d39 : FnD := ⟨42, [.tmp 2], Tryz.f39.body.getD .skip, k39, false, []⟩
def k40 : Keep := assoc [] [(0, [0, 3]), (1, [4])]
noncomputable def d40 : FnD := ⟨13, [.tmp 4], Tryz.f40.body.getD .skip, k40, false, []⟩
def k41 : Keep := assoc [] [(0, [0, 1]), (1, [0, 1, 9]), (2, [4]), (3, [0, 1, 5, 6]), (4, [0, 1, 5, 6, 13]), (5, [0, 1, 5, 6]), (6, [0, 1, 5, 6, 19]), (7, [4]), (8, [0, 1, 5, 6]), (9, [4])]
noncomputable def d41 : FnD := ⟨23, [.tmp 4], Tryz.f41.body.getD .skip, k41, false, []⟩
def k42 : Keep := assoc [] [(0, [1]), (1, [1, 3]), (2, [1, 3, 4]), (3, [1, 3, 4, 11]), (4, [1, 3, 4]), (5, [1, 3, 4]), (6, [1, 3, 5]), (7, [1, 3, 5, 27]), (8, [1, 3, 5]), (9, [1, 3, 5]), (10, [1, 3, 6]), (11, [1, 3, 6, 42]), (12, [1, 3, 6]), (13, [1, 3, 6]), (14, [2])]
noncomputable def d42 : FnD := ⟨55, [.tmp 2], Tryz.f42.body.getD .skip, k42, false, [(2, .own 48), (3, .own 48)]⟩
def k43 : Keep := assoc [] [(0, [0, 1, 2]), (1, [6])]
noncomputable def d43 : FnD := ⟨15, [.tmp 6], Tryz.f43.body.getD .skip, k43, false, []⟩
def k44 : Keep := assoc [] [(0, [0]), (1, [0, 18]), (2, [2]), (3, [0, 3]), (4, [0, 3, 22]), (5, [0, 3]), (6, [0, 3, 41]), (7, [2]), (8, [2])]
noncomputable def d44 : FnD := ⟨42, [.tmp 2], Tryz.f44.body.getD .skip, k44, false, []⟩
def k45 : Keep := assoc [] [(0, [0, 1]), (1, [0, 1, 6]), (2, [0, 6, 9, 10, 11]), (3, [0, 6, 9, 10, 11, 12]), (4, [0, 6, 8, 9, 10, 11]), (5, [0, 6, 8, 9, 10, 11, 18]), (6, [4, 5]), (7, [0, 6, 9, 10, 11]), (8, [0, 6, 9, 10, 11]), (9, [4, 5])]
noncomputable def d45 : FnD := ⟨26, [.tmp 4, .tmp 5], Tryz.f45.body.getD .skip, k45, false, []⟩
def k46 : Keep := assoc [] [(0, [0, 1]), (1, [0, 1, 6, 7]), (2, [0, 6, 7, 12, 13, 14]), (3, [0, 6, 7, 12, 13, 14, 15]), (4, [0, 6, 7, 8, 9, 12, 13, 14]), (5, [0, 6, 7, 8, 9, 10, 11, 12, 13, 14]), (6, [0, 6, 7, 9, 10, 11, 12, 13, 14, 26]), (7, [0, 6, 7, 9, 10, 11, 12, 13, 14]), (8, [0, 6, 7, 9, 12, 13, 14, 34]), (9, [4, 5]), (10, [0, 6, 7, 12, 13, 14]), (11, [0, 6, 7, 12, 13, 14]), (12, [4, 5])]
noncomputable def d46 : FnD := ⟨41, [.tmp 4, .tmp 5], Tryz.f46.body.getD .skip, k46, false, []⟩
def k49 : Keep := assoc [] [(0, [0]), (1, [0, 3]), (2, [0, 3]), (3, [0, 3, 29]), (4, [0, 2]), (5, [0, 2])]
noncomputable def d49 : FnD := ⟨31, [.tmp 2], Tryz.f49.body.getD .skip, k49, false, []⟩
def k50 : Keep := assoc [] [(0, [0]), (1, [0, 3]), (2, [0, 3, 5, 6]), (3, [0, 3, 5, 6, 7]), (4, [0, 3, 5, 6]), (5, [0, 3, 5, 6]), (6, [0, 2])]
noncomputable def d50 : FnD := ⟨15, [.tmp 2], Tryz.f50.body.getD .skip, k50, false, [(2, .own 3), (3, .own 3)]⟩
def k51 : Keep := assoc [] [(0, [0, 1]), (1, [0, 1, 10]), (2, [4]), (3, [0, 1, 5]), (4, [0, 1, 5, 14]), (5, [0, 1, 5]), (6, [0, 1, 5, 41]), (7, [4]), (8, [4])]
noncomputable def d51 : FnD := ⟨42, [.tmp 4], Tryz.f51.body.getD .skip, k51, false, []⟩
def k52 : Keep := assoc [] [(0, [0, 1]), (1, [0, 1, 10]), (2, [4]), (3, [0, 1, 5]), (4, [0, 1, 5, 14]), (5, [0, 1, 5]), (6, [0, 1, 5, 26]), (7, [4]), (8, [4])]
noncomputable def d52 : FnD := ⟨27, [.tmp 4], Tryz.f52.body.getD .skip, k52, false, []⟩
def k53 : Keep := assoc [] [(0, [0]), (1, [2])]
noncomputable def d53 : FnD := ⟨6, [.tmp 2], Tryz.f53.body.getD .skip, k53, false, []⟩
def k58 : Keep := assoc [] [(0, [1]), (1, [1, 20]), (2, [2]), (3, [1, 3]), (4, [1, 3, 25]), (5, [1, 3]), (6, [1, 3, 47]), (7, [2]), (8, [2])]
noncomputable def d58 : FnD := ⟨76, [.tmp 2], Tryz.f58.body.getD .skip, k58, false, []⟩
def k59 : Keep := assoc [] [(0, [0, 1]), (1, [0, 1, 5]), (2, [0, 1, 5, 9]), (3, [0, 1, 5]), (4, [0, 1, 5, 18]), (5, [4]), (6, [4])]
noncomputable def d59 : FnD := ⟨20, [.tmp 4], Tryz.f59.body.getD .skip, k59, false, []⟩
def k60 : Keep := assoc [] [(0, [0, 1]), (1, [4])]
noncomputable def d60 : FnD := ⟨46, [.tmp 4], Tryz.f60.body.getD .skip, k60, false, []⟩
def k61 : Keep := assoc [] [(0, [0, 1, 2]), (1, [0, 1, 7, 8]), (2, [0, 1, 7, 8, 11]), (3, [0, 1, 7, 8, 31]), (4, [6]), (5, [0, 1, 7, 8]), (6, [0, 1, 7, 8, 38]), (7, [0, 1, 7, 8, 47]), (8, [6]), (9, [0, 1, 7, 8]), (10, [0, 1, 7, 8]), (11, [6])]
noncomputable def d61 : FnD := ⟨61, [.tmp 6], Tryz.f61.body.getD .skip, k61, false, []⟩
def k62 : Keep := assoc [] [(0, [1]), (1, [2])]
noncomputable def d62 : FnD := ⟨36, [.tmp 2], Tryz.f62.body.getD .skip, k62, false, []⟩
def k63 : Keep := assoc [] [(0, [0, 1]), (1, [0, 1, 7, 8]), (2, [0, 1, 7, 8, 9]), (3, [0, 1, 5, 7, 8]), (4, [0, 1, 5, 7, 8, 17]), (5, [4]), (6, [0, 1, 7, 8]), (7, [4])]
noncomputable def d63 : FnD := ⟨20, [.tmp 4], Tryz.f63.body.getD .skip, k63, false, []⟩
def k64 : Keep := assoc [] [(0, [0, 3]), (1, [4])]
noncomputable def d64 : FnD := ⟨9, [.tmp 4], Tryz.f64.body.getD .skip, k64, false, []⟩
def k65 : Keep := assoc [] [(0, [0, 1]), (1, [6, 7]), (2, [6, 15]), (3, [4, 5]), (4, [4, 5])]
noncomputable def d65 : FnD := ⟨18, [.tmp 4, .tmp 5], Tryz.f65.body.getD .skip, k65, false, []⟩
def k71 : Keep := assoc [] [(0, [0, 1]), (1, [0, 1, 10]), (2, [4]), (3, [0, 1, 5]), (4, [0, 1, 5, 14]), (5, [0, 1, 5]), (6, [0, 1, 5, 25]), (7, [4]), (8, [4])]
noncomputable def d71 : FnD := ⟨26, [.tmp 4], Tryz.f71.body.getD .skip, k71, false, []⟩
def k75 : Keep := assoc [] [(0, [0]), (1, [2])]
noncomputable def d75 : FnD := ⟨9, [.tmp 2], Tryz.f75.body.getD .skip, k75, false, []⟩
def k76 : Keep := assoc [] [(0, [0]), (1, [0, 16]), (2, [2]), (3, [0, 18, 19]), (4, [0, 18, 19, 20]), (5, [0, 3, 18, 19]), (6, [0, 18, 19, 38]), (7, [2]), (8, [0, 18, 19]), (9, [2])]
noncomputable def d76 : FnD := ⟨40, [.tmp 2], Tryz.f76.body.getD .skip, k76, false, []⟩
def k77 : Keep := assoc [] [(0, [0, 1]), (1, [0, 1, 33]), (2, [4]), (3, [0, 1, 5, 6]), (4, [4])]
noncomputable def d77 : FnD := ⟨54, [.tmp 4], Tryz.f77.body.getD .skip, k77, false, []⟩
def k78 : Keep := assoc [] [(0, [0, 1]), (1, [0, 1, 17]), (2, [4, 5]), (3, [0, 1, 6]), (4, [0, 1, 6, 7]), (5, [0, 1, 6, 7, 21]), (6, [4, 5]), (7, [0, 1, 6, 7, 8, 9]), (8, [0, 1, 6, 7, 8, 31]), (9, [4, 5]), (10, [0, 1, 6, 8]), (11, [0, 1, 6, 7])]
noncomputable def d78 : FnD := ⟨37, [.tmp 4, .tmp 5], Tryz.f78.body.getD .skip, k78, false, [(4, .own 3)]⟩
def k94 : Keep := assoc [] [(0, [0]), (1, [2])]
noncomputable def d94 : FnD := ⟨9, [.tmp 2], Tryz.f94.body.getD .skip, k94, false, []⟩
def k95 : Keep := assoc [] [(0, [0, 1, 2]), (1, [0, 1, 2, 8]), (2, [0, 1, 2, 8, 14]), (3, [6, 7]), (4, [0, 1, 2, 8, 9, 10]), (5, [0, 1, 2, 8, 9, 25]), (6, [6, 7]), (7, [0, 1, 2, 8, 9]), (8, [0, 1, 2, 8]), (9, [0, 1, 2, 8, 33]), (10, [6, 7])]
noncomputable def d95 : FnD := ⟨35, [.tmp 6, .tmp 7], Tryz.f95.body.getD .skip, k95, false, []⟩
def k109 : Keep := assoc [] [(0, [0, 1]), (1, [0, 1, 6]), (2, [4, 5]), (3, [0, 1, 12]), (4, [4, 5]), (5, [4, 5])]
noncomputable def d109 : FnD := ⟨30, [.tmp 4, .tmp 5], Tryz.f109.body.getD .skip, k109, false, []⟩
def k116 : Keep := assoc [] [(0, [0]), (1, [2])]
noncomputable def d116 : FnD := ⟨5, [.tmp 2], Tryz.f116.body.getD .skip, k116, false, []⟩
noncomputable def code : List (FuncId × FnD) := [(3, d3), (4, d4), (5, d5), (6, d6), (7, d7), (8, d8), (9, d9), (10, d10), (11, d11), (12, d12), (13, d13), (14, d14), (15, d15), (16, d16), (17, d17), (18, d18), (19, d19), (20, d20), (21, d21), (22, d22), (23, d23), (24, d24), (26, d26), (27, d27), (28, d28), (29, d29), (30, d30), (31, d31), (32, d32), (33, d33), (34, d34), (35, d35), (36, d36), (39, d39), (40, d40), (41, d41), (42, d42), (43, d43), (44, d44), (45, d45), (46, d46), (49, d49), (50, d50), (51, d51), (52, d52), (53, d53), (58, d58), (59, d59), (60, d60), (61, d61), (62, d62), (63, d63), (64, d64), (65, d65), (71, d71), (75, d75), (76, d76), (77, d77), (78, d78), (94, d94), (95, d95), (109, d109), (116, d116)]
theorem code_ok : CodeOk Tryz.prog code :=
  .cons Tryz.func3 ⟨rfl, rfl, rfl, by decide +kernel⟩ <|
  .cons Tryz.func4 ⟨rfl, rfl, rfl, by decide +kernel⟩ <|
  .cons Tryz.func5 ⟨rfl, rfl, rfl, by decide +kernel⟩ <|
  .cons Tryz.func6 ⟨rfl, rfl, rfl, by decide +kernel⟩ <|
  .cons Tryz.func7 ⟨rfl, rfl, rfl, by decide +kernel⟩ <|
  .cons Tryz.func8 ⟨rfl, rfl, rfl, by decide +kernel⟩ <|
  .cons Tryz.func9 ⟨rfl, rfl, rfl, by decide +kernel⟩ <|
  .cons Tryz.func10 ⟨rfl, rfl, rfl, by decide +kernel⟩ <|
  .cons Tryz.func11 ⟨rfl, rfl, rfl, by decide +kernel⟩ <|
  .cons Tryz.func12 ⟨rfl, rfl, rfl, by decide +kernel⟩ <|
  .cons Tryz.func13 ⟨rfl, rfl, rfl, by decide +kernel⟩ <|
  .cons Tryz.func14 ⟨rfl, rfl, rfl, by decide +kernel⟩ <|
  .cons Tryz.func15 ⟨rfl, rfl, rfl, by decide +kernel⟩ <|
  .cons Tryz.func16 ⟨rfl, rfl, rfl, by decide +kernel⟩ <|
  .cons Tryz.func17 ⟨rfl, rfl, rfl, by decide +kernel⟩ <|
  .cons Tryz.func18 ⟨rfl, rfl, rfl, by decide +kernel⟩ <|
  .cons Tryz.func19 ⟨rfl, rfl, rfl, by decide +kernel⟩ <|
  .cons Tryz.func20 ⟨rfl, rfl, rfl, by decide +kernel⟩ <|
  .cons Tryz.func21 ⟨rfl, rfl, rfl, by decide +kernel⟩ <|
  .cons Tryz.func22 ⟨rfl, rfl, rfl, by decide +kernel⟩ <|
  .cons Tryz.func23 ⟨rfl, rfl, rfl, by decide +kernel⟩ <|
  .cons Tryz.func24 ⟨rfl, rfl, rfl, by decide +kernel⟩ <|
  .cons Tryz.func26 ⟨rfl, rfl, rfl, by decide +kernel⟩ <|
  .cons Tryz.func27 ⟨rfl, rfl, rfl, by decide +kernel⟩ <|
  .cons Tryz.func28 ⟨rfl, rfl, rfl, by decide +kernel⟩ <|
  .cons Tryz.func29 ⟨rfl, rfl, rfl, by decide +kernel⟩ <|
  .cons Tryz.func30 ⟨rfl, rfl, rfl, by decide +kernel⟩ <|
  .cons Tryz.func31 ⟨rfl, rfl, rfl, by decide +kernel⟩ <|
  .cons Tryz.func32 ⟨rfl, rfl, rfl, by decide +kernel⟩ <|
  .cons Tryz.func33 ⟨rfl, rfl, rfl, by decide +kernel⟩ <|
  .cons Tryz.func34 ⟨rfl, rfl, rfl, by decide +kernel⟩ <|
  .cons Tryz.func35 ⟨rfl, rfl, rfl, by decide +kernel⟩ <|
  .cons Tryz.func36 ⟨rfl, rfl, rfl, by decide +kernel⟩ <|
  .cons Tryz.func39 ⟨rfl, rfl, rfl, by decide +kernel⟩ <|
  .cons Tryz.func40 ⟨rfl, rfl, rfl, by decide +kernel⟩ <|
  .cons Tryz.func41 ⟨rfl, rfl, rfl, by decide +kernel⟩ <|
  .cons Tryz.func42 ⟨rfl, rfl, rfl, by decide +kernel⟩ <|
  .cons Tryz.func43 ⟨rfl, rfl, rfl, by decide +kernel⟩ <|
  .cons Tryz.func44 ⟨rfl, rfl, rfl, by decide +kernel⟩ <|
  .cons Tryz.func45 ⟨rfl, rfl, rfl, by decide +kernel⟩ <|
  .cons Tryz.func46 ⟨rfl, rfl, rfl, by decide +kernel⟩ <|
  .cons Tryz.func49 ⟨rfl, rfl, rfl, by decide +kernel⟩ <|
  .cons Tryz.func50 ⟨rfl, rfl, rfl, by decide +kernel⟩ <|
  .cons Tryz.func51 ⟨rfl, rfl, rfl, by decide +kernel⟩ <|
  .cons Tryz.func52 ⟨rfl, rfl, rfl, by decide +kernel⟩ <|
  .cons Tryz.func53 ⟨rfl, rfl, rfl, by decide +kernel⟩ <|
  .cons Tryz.func58 ⟨rfl, rfl, rfl, by decide +kernel⟩ <|
  .cons Tryz.func59 ⟨rfl, rfl, rfl, by decide +kernel⟩ <|
  .cons Tryz.func60 ⟨rfl, rfl, rfl, by decide +kernel⟩ <|
  .cons Tryz.func61 ⟨rfl, rfl, rfl, by decide +kernel⟩ <|
  .cons Tryz.func62 ⟨rfl, rfl, rfl, by decide +kernel⟩ <|
  .cons Tryz.func63 ⟨rfl, rfl, rfl, by decide +kernel⟩ <|
  .cons Tryz.func64 ⟨rfl, rfl, rfl, by decide +kernel⟩ <|
  .cons Tryz.func65 ⟨rfl, rfl, rfl, by decide +kernel⟩ <|
  .cons Tryz.func71 ⟨rfl, rfl, rfl, by decide +kernel⟩ <|
  .cons Tryz.func75 ⟨rfl, rfl, rfl, by decide +kernel⟩ <|
  .cons Tryz.func76 ⟨rfl, rfl, rfl, by decide +kernel⟩ <|
  .cons Tryz.func77 ⟨rfl, rfl, rfl, by decide +kernel⟩ <|
  .cons Tryz.func78 ⟨rfl, rfl, rfl, by decide +kernel⟩ <|
  .cons Tryz.func94 ⟨rfl, rfl, rfl, by decide +kernel⟩ <|
  .cons Tryz.func95 ⟨rfl, rfl, rfl, by decide +kernel⟩ <|
  .cons Tryz.func109 ⟨rfl, rfl, rfl, by decide +kernel⟩ <|
  .cons Tryz.func116 ⟨rfl, rfl, rfl, by decide +kernel⟩ <|
  .nil _
def R : Rets := fun f => match f with
  | 5 => [(.own 28 10, [.d .any])]
  | 6 => [(.tup [.d (.str), .d (.int .i64)], [.d .any, .d .any])]
  | 7 => [(.tup [.d (.str), .d (.int .i64)], [.d .any, .d .any])]
  | 8 => [(.d (.bool), [.d .any, .d .any])]
  | 9 => [(.d (.bool), [.d .any, .d .any])]
  | 10 => [(.d (.int .i64), [.d .any])]
  | 11 => [(.d (.bool), [.d .any, .d .any])]
  | 12 => [(.d (.bool), [])]
  | 13 => [(.tup [.d (.agg [.int .i64, .int .i64, .int .i64, .int .i64, .int .i64, .int .i64, .int .i64, .nil 2, .nil 1, .nil 2]), .d (.int .i64)], [.d .any, .d .any]), (.tup [.agg [.d (.int .i64), .d (.int .i64), .d (.int .i64), .d (.int .i64), .d (.int .i64), .d (.int .i64), .d (.int .i64), .own 55 2, .own 48 1, .own 55 2], .d (.int .i64)], [.d .any, .d .any])]
  | 14 => [(.tup [.d (.agg [.int .i64, .int .i64, .int .i64, .int .i64, .int .i64, .int .i64, .int .i64, .nil 2, .nil 1, .nil 2]), .d (.int .i64)], [.d .any, .d .any]), (.tup [.agg [.d (.int .i64), .d (.int .i64), .d (.int .i64), .d (.int .i64), .d (.int .i64), .d (.int .i64), .d (.int .i64), .own 55 2, .own 48 1, .own 55 2], .d (.int .i64)], [.d .any, .d .any])]
  | 15 => [(.d (.bool), [.d .any, .d .any])]
  | 16 => [(.agg [.own 55 2, .own 48 1, .own 55 2], [.d .any])]
  | 17 => [(.d (.str), [.d .any])]
  | 18 => [(.own 3 1, [.dead, .d .any])]
  | 19 => [(.own 3 1, [.dead, .d .any])]
  | 20 => [(.d (.str), [.d .any])]
  | 21 => [(.d (.bool), [.d .any, .d .any])]
  | 22 => [(.d (.bool), [.d .any])]
  | 23 => [(.d (.bool), [.d .any, .d .any])]
  | 25 => [(.d (.sl 1), [.d .any, .d .any])]
  | 26 => [(.d (.int .i64), [.dbox 61 0 [.sl 1, .bool]])]
  | 27 => [(.own 55 2, [.dbox 61 0 [.sl 1, .bool]])]
  | 28 => [(.own 48 1, [.dbox 61 0 [.sl 1, .bool]])]
  | 29 => [(.own 3 1, [.d .any])]
  | 30 => [(.d (.int .i64), [.dbox 68 0 [.sl 1, .int .i64, .bool]])]
  | 31 => [(.own 55 2, [.dbox 68 0 [.sl 1, .int .i64, .bool]])]
  | 32 => [(.own 3 1, [.dbox 68 0 [.sl 1, .int .i64, .bool]])]
  | 33 => [(.d (.bool), [.d .any, .d .any])]
  | 34 => [(.own 55 2, [.d .any])]
  | 35 => [(.own 48 1, [.d .any])]
  | 36 => [(.own 3 1, [.dead, .d .any])]
  | 37 => [(.d (.str), [.d .any])]
  | 38 => [(.d (.str), [.d .any, .d .any])]
  | 39 => [(.d (.bool), [.d .any])]
  | 40 => [(.d (.bool), [.d .any, .d .any])]
  | 41 => [(.d (.int .i64), [.d .any, .d .any])]
  | 42 => [(.own 48 1, [.d .any])]
  | 43 => [(.d (.bool), [.d .any, .d .any, .d .any])]
  | 44 => [(.d (.bool), [.d .any])]
  | 45 => [(.tup [.d (.int .i64), .d (.bool)], [.d .any, .d .any])]
  | 46 => [(.tup [.d (.int .i64), .d (.bool)], [.d .any, .d .any])]
  | 48 => [(.tup [.d (.int .i64), .d (.ifc)], [.d .any])]
  | 49 => [(.d (.int .i64), [.dbox 61 0 [.sl 1, .bool]])]
  | 50 => [(.own 3 1, [.dbox 61 0 [.sl 1, .bool]])]
  | 51 => [(.d (.bool), [.d .any, .d .any])]
  | 52 => [(.d (.bool), [.d .any, .d .any])]
  | 53 => [(.own 3 1, [.d .any])]
  | 58 => [(.d (.bool), [.d .any])]
  | 59 => [(.d (.int .i64), [.d .any, .d .any])]
  | 60 => [(.d (.bool), [.d .any, .d .any])]
  | 61 => [(.d (.int .i64), [.d .any, .d .any, .d .any])]
  | 62 => [(.d (.bool), [.d .any])]
  | 63 => [(.d (.int .i64), [.d .any, .d .any])]
  | 64 => [(.d (.bool), [.d .any, .d .any])]
  | 65 => [(.tup [.d (.int .i64), .d (.int .i64)], [.d .any, .d .any])]
  | 71 => [(.d (.bool), [.d .any, .d .any])]
  | 75 => [(.d (.bool), [.d .any])]
  | 76 => [(.d (.bool), [.d .any])]
  | 77 => [(.d (.bool), [.d .any, .d .any])]
  | 78 => [(.tup [.own 3 1, .d (.bool)], [.d .any, .d .any])]
  | 94 => [(.d (.bool), [.d .any])]
  | 95 => [(.tup [.d (.int .i64), .d (.bool)], [.d .any, .d .any, .d .any])]
  | 109 => [(.tup [.d (.int .i64), .d (.bool)], [.d .any, .d .any])]
  | 116 => [(.d (.int .i64), [.d .any])]
  | _ => [(.any, [])]
noncomputable def F : Fx := ⟨T, [(0, [.str "=".toUTF8, .int .i64 0, .int .i64 2, .int .i64 1]), (1, [.anyi .i64]), (2, [.ifc false]), (3, [.ifc false]), (4, Lib.pow10Tab.map fun z => .int .u64 z)], codeOf code, fun f => match f with | 37 => some itoaP | 38 => some joinP | 25 => some splitP | 48 => some atoiP | _ => none⟩
def L5 : Lps := fun b => match b with
  | 0 => [.norm [(0, .d (.sl 10)), (3, .own 28 10), (4, .d (.int .i64))]]
  | _ => [.norm []]
def L6 : Lps := fun b => match b with
  | _ => [.norm []]
def L7 : Lps := fun b => match b with
  | 0 => [.norm [(3, .dbox 28 0 [.int .i64, .int .i64, .int .i64, .int .i64, .int .i64, .int .i64, .int .i64, .sl 2, .sl 1, .sl 2]), (6, .own 3 1), (7, .d (.int .i64))]]
  | 2 => [.norm [(6, .own 3 1), (8, .d (.str)), (9, .d (.int .i64))]]
  | _ => [.norm []]
def L8 : Lps := fun b => match b with
  | _ => [.norm []]
def L9 : Lps := fun b => match b with
  | _ => [.norm []]
def L10 : Lps := fun b => match b with
  | _ => [.norm []]
def L13 : Lps := fun b => match b with
  | _ => [.norm []]
def L14 : Lps := fun b => match b with
  | 0 => [.norm [(0, .d (.sl 4)), (1, .d (.str)), (4, .dbox 28 0 [.int .i64, .int .i64, .int .i64, .int .i64, .int .i64, .int .i64, .int .i64, .nil 2, .nil 1, .nil 2]), (6, .dbox 68 0 [.sl 1, .int .i64, .bool]), (7, .ptr 28 0 [.d (.int .i64), .d (.int .i64), .d (.int .i64), .d (.int .i64), .d (.int .i64), .d (.int .i64), .d (.int .i64), .own 55 2, .own 48 1, .d (.nil 2)]), (8, .d (.int .i64)), (9, .d (.int .i64))]]
  | _ => [.norm []]
def L15 : Lps := fun b => match b with
  | _ => [.norm []]
def L17 : Lps := fun b => match b with
  | 0 => [.norm [(1, .dbox 28 0 [.int .i64, .int .i64, .int .i64, .int .i64, .int .i64, .int .i64, .int .i64, .sl 2, .sl 1, .sl 2]), (3, .own 3 1), (37, .d (.sl 1)), (38, .d (.int .i64)), (39, .d (.int .i64))]]
  | 2 => [.norm [(6, .own 9 1), (59, .own 3 1), (60, .d (.int .i64)), (61, .d (.int .i64))]]
  | _ => [.norm []]
def L18 : Lps := fun b => match b with
  | 0 => [.norm [(0, .own 3 1), (1, .d (.sl 2)), (5, .d (.int .i64))]]
  | _ => [.norm []]
def L19 : Lps := fun b => match b with
  | _ => [.norm []]
def L20 : Lps := fun b => match b with
  | _ => [.norm []]
def L21 : Lps := fun b => match b with
  | 0 => [.ret [(4, .d (.bool))], .norm [(0, .d (.sl 4)), (3, .dbox 26 0 [.sl 2, .sl 1, .sl 2]), (5, .d (.int .i64))]]
  | 2 => [.ret [(4, .d (.bool))], .norm [(0, .d (.sl 4)), (3, .dbox 26 0 [.sl 2, .sl 1, .sl 2]), (6, .d (.int .i64))]]
  | 4 => [.ret [(4, .d (.bool))], .norm [(0, .d (.sl 4)), (3, .dbox 26 0 [.sl 2, .sl 1, .sl 2]), (7, .d (.int .i64))]]
  | 6 => [.norm [(9, .own 48 1), (10, .d (.int .i64)), (11, .d (.int .i64))]]
  | _ => [.norm []]
def L22 : Lps := fun b => match b with
  | _ => [.norm []]
def L23 : Lps := fun b => match b with
  | _ => [.norm []]
def L26 : Lps := fun b => match b with
  | _ => [.norm []]
def L27 : Lps := fun b => match b with
  | 0 => [.norm [(0, .dbox 61 0 [.sl 1, .bool]), (3, .own 55 2), (6, .d (.int .i64)), (7, .d (.int .i64))]]
  | _ => [.norm []]
def L28 : Lps := fun b => match b with
  | 0 => [.norm [(0, .dbox 61 0 [.sl 1, .bool]), (3, .own 48 1), (5, .d (.int .i64)), (6, .d (.int .i64))]]
  | _ => [.norm []]
def L29 : Lps := fun b => match b with
  | 0 => [.ret [(2, .own 3 1)], .norm [(0, .d (.str)), (3, .own 3 1), (4, .d (.int .i64))]]
  | 2 => [.norm [(0, .d (.str)), (3, .own 3 1), (4, .d (.int .i64)), (5, .d (.bool)), (6, .d (.int .i64)), (7, .d (.int .i64))]]
  | _ => [.norm []]
def L30 : Lps := fun b => match b with
  | _ => [.norm []]
def L31 : Lps := fun b => match b with
  | 0 => [.norm [(0, .dbox 68 0 [.sl 1, .int .i64, .bool]), (3, .own 55 2), (4, .d (.int .i64)), (5, .d (.int .i64))]]
  | _ => [.norm []]
def L32 : Lps := fun b => match b with
  | 0 => [.norm [(0, .dbox 68 0 [.sl 1, .int .i64, .bool]), (3, .own 3 1), (4, .d (.int .i64)), (5, .d (.int .i64))]]
  | _ => [.norm []]
def L33 : Lps := fun b => match b with
  | _ => [.norm []]
def L36 : Lps := fun b => match b with
  | 0 => [.norm [(0, .own 3 1), (13, .d (.sl 2)), (14, .d (.int .i64)), (15, .d (.int .i64))]]
  | _ => [.norm []]
def L39 : Lps := fun b => match b with
  | 0 => [.ret [(2, .d (.bool))], .norm [(0, .d (.sl 4)), (3, .d (.int .i64))]]
  | _ => [.norm []]
def L40 : Lps := fun b => match b with
  | _ => [.norm []]
def L41 : Lps := fun b => match b with
  | 0 => [.ret [(4, .d (.int .i64))], .norm [(0, .d (.sl 4)), (1, .d (.sl 1)), (5, .d (.int .i64)), (6, .d (.int .i64))]]
  | _ => [.norm []]
def L42 : Lps := fun b => match b with
  | 0 => [.norm [(1, .dbox 26 0 [.sl 2, .sl 1, .sl 2]), (3, .own 48 1), (4, .d (.int .i64))]]
  | 2 => [.norm [(1, .dbox 26 0 [.sl 2, .sl 1, .sl 2]), (3, .own 48 1), (5, .d (.int .i64))]]
  | 4 => [.norm [(1, .dbox 26 0 [.sl 2, .sl 1, .sl 2]), (3, .own 48 1), (6, .d (.int .i64))]]
  | _ => [.norm []]
def L43 : Lps := fun b => match b with
  | _ => [.norm []]
def L44 : Lps := fun b => match b with
  | 0 => [.ret [(2, .d (.bool))], .norm [(0, .d (.sl 4)), (3, .d (.int .i64))]]
  | _ => [.norm []]
def L45 : Lps := fun b => match b with
  | 0 => [.ret [(4, .d (.int .i64)), (5, .d (.bool))], .norm [(0, .d (.sl 4)), (6, .d (.int .i64)), (9, .d (.sl 2)), (10, .d (.int .i64)), (11, .d (.int .i64))]]
  | _ => [.norm []]
def L46 : Lps := fun b => match b with
  | 0 => [.ret [(4, .d (.int .i64)), (5, .d (.bool))], .norm [(0, .d (.sl 4)), (6, .d (.int .i64)), (7, .d (.int .i64)), (12, .d (.sl 1)), (13, .d (.int .i64)), (14, .d (.int .i64))]]
  | _ => [.norm []]
def L49 : Lps := fun b => match b with
  | _ => [.norm []]
def L50 : Lps := fun b => match b with
  | 0 => [.norm [(0, .dbox 61 0 [.sl 1, .bool]), (3, .own 3 1), (5, .d (.int .i64)), (6, .d (.int .i64))]]
  | _ => [.norm []]
def L51 : Lps := fun b => match b with
  | 0 => [.ret [(4, .d (.bool))], .norm [(0, .d (.sl 2)), (1, .d (.sl 2)), (5, .d (.int .i64))]]
  | _ => [.norm []]
def L52 : Lps := fun b => match b with
  | 0 => [.ret [(4, .d (.bool))], .norm [(0, .d (.sl 1)), (1, .d (.sl 1)), (5, .d (.int .i64))]]
  | _ => [.norm []]
def L58 : Lps := fun b => match b with
  | 0 => [.ret [(2, .d (.bool))], .norm [(1, .dbox 84 0 [.str, .int .i64, .int .i64, .int .i64]), (3, .d (.int .i64))]]
  | _ => [.norm []]
def L59 : Lps := fun b => match b with
  | 0 => [.ret [(4, .d (.int .i64))], .norm [(0, .d (.sl 4)), (1, .d (.str)), (5, .d (.int .i64))]]
  | _ => [.norm []]
def L60 : Lps := fun b => match b with
  | _ => [.norm []]
def L61 : Lps := fun b => match b with
  | 0 => [.ret [(6, .d (.int .i64))], .norm [(0, .d (.sl 4)), (1, .d (.sl 1)), (7, .d (.int .i64)), (8, .d (.int .i64))]]
  | _ => [.norm []]
def L62 : Lps := fun b => match b with
  | _ => [.norm []]
def L63 : Lps := fun b => match b with
  | 0 => [.ret [(4, .d (.int .i64))], .norm [(0, .d (.sl 4)), (1, .d (.str)), (7, .d (.int .i64)), (8, .d (.int .i64))]]
  | _ => [.norm []]
def L64 : Lps := fun b => match b with
  | _ => [.norm []]
def L65 : Lps := fun b => match b with
  | _ => [.norm []]
def L71 : Lps := fun b => match b with
  | 0 => [.ret [(4, .d (.bool))], .norm [(0, .d (.sl 1)), (1, .d (.sl 1)), (5, .d (.int .i64))]]
  | _ => [.norm []]
def L75 : Lps := fun b => match b with
  | _ => [.norm []]
def L76 : Lps := fun b => match b with
  | 0 => [.ret [(2, .d (.bool))], .norm [(0, .d (.str)), (18, .d (.int .i64)), (19, .d (.int .i64))]]
  | _ => [.norm []]
def L77 : Lps := fun b => match b with
  | _ => [.norm []]
def L78 : Lps := fun b => match b with
  | 1000000 => [.ret [(4, .own 3 1), (5, .d (.bool))]]
  | _ => [.norm []]
def L94 : Lps := fun b => match b with
  | _ => [.norm []]
def L95 : Lps := fun b => match b with
  | 1000000 => [.ret [(6, .d (.int .i64)), (7, .d (.bool))]]
  | _ => [.norm []]
def L109 : Lps := fun b => match b with
  | _ => [.norm []]
def L116 : Lps := fun b => match b with
  | _ => [.norm []]
end Go.Proofs.YtjoibdmiolcodaaGreatDoor.Ab

/- Written by a program of this session (wip/tools/AbSym.lean). Not trusted: Lean checks it. -/
set_option maxRecDepth 100000
set_option linter.unusedVariables false
namespace Go.Proofs.YtjoibdmiolcodaaGreatDoor.Ab
open Go Go.Ab Go.Proofs
theorem q5 (C J) (z1 : Bool) (x2 : List D) (e3 : List D) (Q) : fnW F C R (L5) J d5 [.d (.sl 10 z1 x2 e3)] Q = (∃ w0 w1 w2 w3 w4 w5, evP F C J d5 [] [1, 1, 0, 1] [(0, IV.d (D.sl 10 z1 x2 e3)), (3, IV.own true 28 10 []), (4, IV.d (D.int IntKind.i64 0))] = some (Out.norm [(0, IV.d (D.sl 10 w0 w1 w2)), (3, IV.own w3 28 10 w4), (4, IV.d (D.int IntKind.i64 w5))]) ∧ Q (some (IV.own w3 28 10 w4, [IV.d (D.sl 10 z1 x2 e3)]))) := by kernel_rfl
theorem q43 (C J) (i1 : Int) (i2 : Int) (i3 : Int) (Q) : fnW F C R (L43) J d43 [.d (.int .i64 i1), .d (.int .i64 i2), .d (.int .i64 i3)] Q = (condW (decide (i1 ≥ i2)) (condW (decide (i1 ≤ i3)) (Q (some (IV.d (D.bool true), [IV.d (D.int IntKind.i64 i1), IV.d (D.int IntKind.i64 i2), IV.d (D.int IntKind.i64 i3)]))) (Q (some (IV.d (D.bool false), [IV.d (D.int IntKind.i64 i1), IV.d (D.int IntKind.i64 i2), IV.d (D.int IntKind.i64 i3)])))) (Q (some (IV.d (D.bool false), [IV.d (D.int IntKind.i64 i1), IV.d (D.int IntKind.i64 i2), IV.d (D.int IntKind.i64 i3)])))) := by kernel_rfl
theorem q22 (C J) (i1 : Int) (i2 : Int) (i3 : Int) (i4 : Int) (i5 : Int) (i6 : Int) (i7 : Int) (z8 : Bool) (x9 : List D) (e10 : List D) (z11 : Bool) (x12 : List D) (e13 : List D) (z14 : Bool) (x15 : List D) (e16 : List D) (Q) : fnW F C R (L22) J d22 [.d (.agg [.int .i64 i1, .int .i64 i2, .int .i64 i3, .int .i64 i4, .int .i64 i5, .int .i64 i6, .int .i64 i7, .sl 2 z8 x9 e10, .sl 1 z11 x12 e13, .sl 2 z14 x15 e16])] Q = (∃ w0 w1 w2 w3, C 43 [IV.d (D.int IntKind.i64 i1), IV.d (D.int IntKind.i64 0), IV.d (D.int IntKind.i64 7)] = some (IV.d (D.bool w0), [IV.d w1, IV.d w2, IV.d w3]) ∧ condW w0 (∃ w4 w5 w6 w7, C 43 [IV.d (D.int IntKind.i64 i2), IV.d (D.int IntKind.i64 (-1)), IV.d (D.int IntKind.i64 199)] = some (IV.d (D.bool w4), [IV.d w5, IV.d w6, IV.d w7]) ∧ condW w4 (∃ w8 w9 w10 w11, C 43 [IV.d (D.int IntKind.i64 i5), IV.d (D.int IntKind.i64 (-1)), IV.d (D.int IntKind.i64 199)] = some (IV.d (D.bool w8), [IV.d w9, IV.d w10, IV.d w11]) ∧ condW w8 (∃ w12 w13 w14 w15, C 43 [IV.d (D.int IntKind.i64 i3), IV.d (D.int IntKind.i64 0), IV.d (D.int IntKind.i64 4)] = some (IV.d (D.bool w12), [IV.d w13, IV.d w14, IV.d w15]) ∧ condW w12 (∃ w16 w17 w18 w19, C 43 [IV.d (D.int IntKind.i64 i6), IV.d (D.int IntKind.i64 0), IV.d (D.int IntKind.i64 4)] = some (IV.d (D.bool w16), [IV.d w17, IV.d w18, IV.d w19]) ∧ condW w16 (∃ w20 w21 w22 w23, C 43 [IV.d (D.int IntKind.i64 i4), IV.d (D.int IntKind.i64 0), IV.d (D.int IntKind.i64 1)] = some (IV.d (D.bool w20), [IV.d w21, IV.d w22, IV.d w23]) ∧ condW w20 (∃ w24 w25 w26 w27, C 43 [IV.d (D.int IntKind.i64 i7), IV.d (D.int IntKind.i64 0), IV.d (D.int IntKind.i64 48)] = some (IV.d (D.bool w24), [IV.d w25, IV.d w26, IV.d w27]) ∧ condW w24 (Q (some (IV.d (D.bool true), [IV.d (D.agg [D.int IntKind.i64 i1, D.int IntKind.i64 i2, D.int IntKind.i64 i3, D.int IntKind.i64 i4, D.int IntKind.i64 i5, D.int IntKind.i64 i6, D.int IntKind.i64 i7, D.sl 2 z8 x9 e10, D.sl 1 z11 x12 e13, D.sl 2 z14 x15 e16])]))) (Q (some (IV.d (D.bool false), [IV.d (D.agg [D.int IntKind.i64 i1, D.int IntKind.i64 i2, D.int IntKind.i64 i3, D.int IntKind.i64 i4, D.int IntKind.i64 i5, D.int IntKind.i64 i6, D.int IntKind.i64 i7, D.sl 2 z8 x9 e10, D.sl 1 z11 x12 e13, D.sl 2 z14 x15 e16])])))) (Q (some (IV.d (D.bool false), [IV.d (D.agg [D.int IntKind.i64 i1, D.int IntKind.i64 i2, D.int IntKind.i64 i3, D.int IntKind.i64 i4, D.int IntKind.i64 i5, D.int IntKind.i64 i6, D.int IntKind.i64 i7, D.sl 2 z8 x9 e10, D.sl 1 z11 x12 e13, D.sl 2 z14 x15 e16])])))) (Q (some (IV.d (D.bool false), [IV.d (D.agg [D.int IntKind.i64 i1, D.int IntKind.i64 i2, D.int IntKind.i64 i3, D.int IntKind.i64 i4, D.int IntKind.i64 i5, D.int IntKind.i64 i6, D.int IntKind.i64 i7, D.sl 2 z8 x9 e10, D.sl 1 z11 x12 e13, D.sl 2 z14 x15 e16])])))) (Q (some (IV.d (D.bool false), [IV.d (D.agg [D.int IntKind.i64 i1, D.int IntKind.i64 i2, D.int IntKind.i64 i3, D.int IntKind.i64 i4, D.int IntKind.i64 i5, D.int IntKind.i64 i6, D.int IntKind.i64 i7, D.sl 2 z8 x9 e10, D.sl 1 z11 x12 e13, D.sl 2 z14 x15 e16])])))) (Q (some (IV.d (D.bool false), [IV.d (D.agg [D.int IntKind.i64 i1, D.int IntKind.i64 i2, D.int IntKind.i64 i3, D.int IntKind.i64 i4, D.int IntKind.i64 i5, D.int IntKind.i64 i6, D.int IntKind.i64 i7, D.sl 2 z8 x9 e10, D.sl 1 z11 x12 e13, D.sl 2 z14 x15 e16])])))) (Q (some (IV.d (D.bool false), [IV.d (D.agg [D.int IntKind.i64 i1, D.int IntKind.i64 i2, D.int IntKind.i64 i3, D.int IntKind.i64 i4, D.int IntKind.i64 i5, D.int IntKind.i64 i6, D.int IntKind.i64 i7, D.sl 2 z8 x9 e10, D.sl 1 z11 x12 e13, D.sl 2 z14 x15 e16])])))) (Q (some (IV.d (D.bool false), [IV.d (D.agg [D.int IntKind.i64 i1, D.int IntKind.i64 i2, D.int IntKind.i64 i3, D.int IntKind.i64 i4, D.int IntKind.i64 i5, D.int IntKind.i64 i6, D.int IntKind.i64 i7, D.sl 2 z8 x9 e10, D.sl 1 z11 x12 e13, D.sl 2 z14 x15 e16])])))) := by kernel_rfl
theorem q94 (C J) (i1 : Int) (Q) : fnW F C R (L94) J d94 [.d (.int .u8 i1)] Q = (condW (decide (i1 ≥ 97)) (condW (decide (i1 ≤ 122)) (Q (some (IV.d (D.bool true), [IV.d (D.int IntKind.u8 i1)]))) (Q (some (IV.d (D.bool false), [IV.d (D.int IntKind.u8 i1)])))) (Q (some (IV.d (D.bool false), [IV.d (D.int IntKind.u8 i1)])))) := by kernel_rfl
theorem q76 (C J) (s1 : ByteArray) (Q) : fnW F C R (L76) J d76 [.d (.str s1)] Q = (condW (ByteArray.toList s1 == ByteArray.toList { data := #[] }) (Q (some (IV.d (D.bool false), [IV.d (D.str s1)]))) (condW (decide ((↑(ByteArray.size s1) : Int) > 8)) (Q (some (IV.d (D.bool false), [IV.d (D.str s1)]))) (condW (decide (0 < (↑(ByteArray.size s1) : Int))) (∃ w0 w1, C 94 [IV.d (D.int IntKind.u8 (byteAt s1 (Int.toNat 0)))] = some (IV.d (D.bool w0), [IV.d w1]) ∧ condW w0 ((∃ w2, evP F C J d76 [] [1, 1, 0, 1] [(0, IV.d (D.str s1)), (18, IV.d (D.int IntKind.i64 (↑(ByteArray.size s1) : Int))), (19, IV.d (D.int IntKind.i64 0))] = some (Out.ret [(2, IV.d (D.bool w2))]) ∧ Q (some (IV.d (D.bool w2), [IV.d (D.str s1)]))) ∨ ∃ w3 w4 w5, evP F C J d76 [] [1, 1, 0, 1] [(0, IV.d (D.str s1)), (18, IV.d (D.int IntKind.i64 (↑(ByteArray.size s1) : Int))), (19, IV.d (D.int IntKind.i64 0))] = some (Out.norm [(0, IV.d (D.str w3)), (18, IV.d (D.int IntKind.i64 w4)), (19, IV.d (D.int IntKind.i64 w5))]) ∧ Q (some (IV.d (D.bool true), [IV.d (D.str s1)]))) (Q (some (IV.d (D.bool false), [IV.d (D.str s1)])))) False))) := by kernel_rfl
theorem q76_l0a (C J) (s1 : ByteArray) (i2 : Int) (i3 : Int) (Q) : wpQ F C R (L76) J d76 [] [1,1,0,1,0,0] [(0, .d (.str s1)), (18, .d (.int .i64 i2)), (19, .d (.int .i64 i3))] Q = (condW (decide (i3 < i2)) (condW (decide (0 ≤ i3)) (condW (decide (i3 < (↑(ByteArray.size s1) : Int))) (∃ w0 w1, C 94 [IV.d (D.int IntKind.u8 (byteAt s1 (Int.toNat i3)))] = some (IV.d (D.bool w0), [IV.d w1]) ∧ condW w0 (Q (Out.norm [(0, IV.d (D.str s1)), (18, IV.d (D.int IntKind.i64 i2)), (19, IV.d (D.int IntKind.i64 (IntKind.wrap IntKind.i64 (i3 + 1))))])) (condW (decide (0 ≤ i3)) (condW (decide (i3 < (↑(ByteArray.size s1) : Int))) (condW (decide (byteAt s1 (Int.toNat i3) < 48)) (Q (Out.ret [(2, IV.d (D.bool false))])) (condW (decide (0 ≤ i3)) (condW (decide (i3 < (↑(ByteArray.size s1) : Int))) (condW (decide (byteAt s1 (Int.toNat i3) > 57)) (Q (Out.ret [(2, IV.d (D.bool false))])) (Q (Out.norm [(0, IV.d (D.str s1)), (18, IV.d (D.int IntKind.i64 i2)), (19, IV.d (D.int IntKind.i64 (IntKind.wrap IntKind.i64 (i3 + 1))))]))) False) False)) False) False)) False) False) (Q (Out.exit 0 [(0, IV.d (D.str s1)), (18, IV.d (D.int IntKind.i64 i2)), (19, IV.d (D.int IntKind.i64 i3))]))) := by kernel_rfl
theorem q62 (C J) (s1 : ByteArray) (i2 : Int) (i3 : Int) (i4 : Int) (Q) : fnW F C R (L62) J d62 [.d (.agg [.str s1, .int .i64 i2, .int .i64 i3, .int .i64 i4])] Q = (∃ w0 w1, C 76 [IV.d (D.str s1)] = some (IV.d (D.bool w0), [IV.d w1]) ∧ condW w0 (condW (decide (i2 ≥ 0)) (condW (decide (i2 ≤ 2)) (condW (decide (i3 ≥ 0)) (condW (decide (i3 ≤ 3)) (condW (decide (i4 ≥ 1)) (condW (decide (i4 ≤ 20)) (Q (some (IV.d (D.bool true), [IV.d (D.agg [D.str s1, D.int IntKind.i64 i2, D.int IntKind.i64 i3, D.int IntKind.i64 i4])]))) (Q (some (IV.d (D.bool false), [IV.d (D.agg [D.str s1, D.int IntKind.i64 i2, D.int IntKind.i64 i3, D.int IntKind.i64 i4])])))) (Q (some (IV.d (D.bool false), [IV.d (D.agg [D.str s1, D.int IntKind.i64 i2, D.int IntKind.i64 i3, D.int IntKind.i64 i4])])))) (Q (some (IV.d (D.bool false), [IV.d (D.agg [D.str s1, D.int IntKind.i64 i2, D.int IntKind.i64 i3, D.int IntKind.i64 i4])])))) (Q (some (IV.d (D.bool false), [IV.d (D.agg [D.str s1, D.int IntKind.i64 i2, D.int IntKind.i64 i3, D.int IntKind.i64 i4])])))) (Q (some (IV.d (D.bool false), [IV.d (D.agg [D.str s1, D.int IntKind.i64 i2, D.int IntKind.i64 i3, D.int IntKind.i64 i4])])))) (Q (some (IV.d (D.bool false), [IV.d (D.agg [D.str s1, D.int IntKind.i64 i2, D.int IntKind.i64 i3, D.int IntKind.i64 i4])])))) (Q (some (IV.d (D.bool false), [IV.d (D.agg [D.str s1, D.int IntKind.i64 i2, D.int IntKind.i64 i3, D.int IntKind.i64 i4])])))) := by kernel_rfl
theorem q63 (C J) (z1 : Bool) (x2 : List D) (e3 : List D) (s4 : ByteArray) (Q) : fnW F C R (L63) J d63 [.d (.sl 4 z1 x2 e3), .d (.str s4)] Q = ((∃ w0, evP F C J d63 [] [1, 0, 1] [(0, IV.d (D.sl 4 z1 x2 e3)), (1, IV.d (D.str s4)), (7, IV.d (D.int IntKind.i64 (↑(List.length x2) : Int))), (8, IV.d (D.int IntKind.i64 0))] = some (Out.ret [(4, IV.d (D.int IntKind.i64 w0))]) ∧ Q (some (IV.d (D.int IntKind.i64 w0), [IV.d (D.sl 4 z1 x2 e3), IV.d (D.str s4)]))) ∨ ∃ w1 w2 w3 w4 w5 w6, evP F C J d63 [] [1, 0, 1] [(0, IV.d (D.sl 4 z1 x2 e3)), (1, IV.d (D.str s4)), (7, IV.d (D.int IntKind.i64 (↑(List.length x2) : Int))), (8, IV.d (D.int IntKind.i64 0))] = some (Out.norm [(0, IV.d (D.sl 4 w1 w2 w3)), (1, IV.d (D.str w4)), (7, IV.d (D.int IntKind.i64 w5)), (8, IV.d (D.int IntKind.i64 w6))]) ∧ Q (some (IV.d (D.int IntKind.i64 (-1)), [IV.d (D.sl 4 z1 x2 e3), IV.d (D.str s4)]))) := by kernel_rfl
theorem q63_l0a (C J) (z1 : Bool) (x2 : List D) (e3 : List D) (s4 : ByteArray) (i5 : Int) (i6 : Int) (Q) : wpQ F C R (L63) J d63 [] [1,0,1,0,0] [(0, .d (.sl 4 z1 x2 e3)), (1, .d (.str s4)), (7, .d (.int .i64 i5)), (8, .d (.int .i64 i6))] Q = (condW (decide (i6 < i5)) (condW (decide (0 ≤ i6)) (∃ w0 w1 w2 w3, x2[Int.toNat i6]? = some (D.agg [D.str w0, D.int IntKind.i64 w1, D.int IntKind.i64 w2, D.int IntKind.i64 w3]) ∧ condW (ByteArray.toList w0 == ByteArray.toList s4) (Q (Out.ret [(4, IV.d (D.int IntKind.i64 i6))])) (Q (Out.norm [(0, IV.d (D.sl 4 z1 x2 e3)), (1, IV.d (D.str s4)), (7, IV.d (D.int IntKind.i64 i5)), (8, IV.d (D.int IntKind.i64 (IntKind.wrap IntKind.i64 (i6 + 1))))]))) False) (Q (Out.exit 0 [(0, IV.d (D.sl 4 z1 x2 e3)), (1, IV.d (D.str s4)), (7, IV.d (D.int IntKind.i64 i5)), (8, IV.d (D.int IntKind.i64 i6))]))) := by kernel_rfl
theorem q44 (C J) (z1 : Bool) (x2 : List D) (e3 : List D) (Q) : fnW F C R (L44) J d44 [.d (.sl 4 z1 x2 e3)] Q = (condW (decide ((↑(List.length x2) : Int) < 1)) (Q (some (IV.d (D.bool false), [IV.d (D.sl 4 z1 x2 e3)]))) (condW (decide ((↑(List.length x2) : Int) > 20)) (Q (some (IV.d (D.bool false), [IV.d (D.sl 4 z1 x2 e3)]))) (∃ w0 w1 w2 w3, x2[0]? = some (D.agg [D.str w0, D.int IntKind.i64 w1, D.int IntKind.i64 w2, D.int IntKind.i64 w3]) ∧ condW (!(ByteArray.toList w0 == ByteArray.toList (String.toUTF8 "=") && (w1 == 0 && (w2 == 2 && (w3 == 1 && true))))) (Q (some (IV.d (D.bool false), [IV.d (D.sl 4 z1 x2 e3)]))) ((∃ w4, evP F C J d44 [] [1, 1, 0, 1] [(0, IV.d (D.sl 4 z1 x2 e3)), (3, IV.d (D.int IntKind.i64 1))] = some (Out.ret [(2, IV.d (D.bool w4))]) ∧ Q (some (IV.d (D.bool w4), [IV.d (D.sl 4 z1 x2 e3)]))) ∨ ∃ w5 w6 w7 w8, evP F C J d44 [] [1, 1, 0, 1] [(0, IV.d (D.sl 4 z1 x2 e3)), (3, IV.d (D.int IntKind.i64 1))] = some (Out.norm [(0, IV.d (D.sl 4 w5 w6 w7)), (3, IV.d (D.int IntKind.i64 w8))]) ∧ Q (some (IV.d (D.bool true), [IV.d (D.sl 4 z1 x2 e3)])))))) := by kernel_rfl
theorem q44_l0a (C J) (z1 : Bool) (x2 : List D) (e3 : List D) (i4 : Int) (Q) : wpQ F C R (L44) J d44 [] [1,1,0,1,0,0] [(0, .d (.sl 4 z1 x2 e3)), (3, .d (.int .i64 i4))] Q = (condW (decide (i4 < (↑(List.length x2) : Int))) (condW (decide (0 ≤ i4)) (∃ w0 w1 w2 w3, x2[Int.toNat i4]? = some (D.agg [D.str w0, D.int IntKind.i64 w1, D.int IntKind.i64 w2, D.int IntKind.i64 w3]) ∧ ∃ w4 w5, C 62 [IV.d (D.agg [D.str w0, D.int IntKind.i64 w1, D.int IntKind.i64 w2, D.int IntKind.i64 w3])] = some (IV.d (D.bool w4), [IV.d w5]) ∧ condW w4 (condW (decide (0 ≤ i4)) (∃ w6 w7 w8 w9, x2[Int.toNat i4]? = some (D.agg [D.str w6, D.int IntKind.i64 w7, D.int IntKind.i64 w8, D.int IntKind.i64 w9]) ∧ ∃ w10 w11 w12, C 63 [IV.d (D.sl 4 z1 x2 e3), IV.d (D.str w6)] = some (IV.d (D.int IntKind.i64 w10), [IV.d w11, IV.d w12]) ∧ condW (w10 != i4) (Q (Out.ret [(2, IV.d (D.bool false))])) (Q (Out.norm [(0, IV.d (D.sl 4 z1 x2 e3)), (3, IV.d (D.int IntKind.i64 (IntKind.wrap IntKind.i64 (i4 + 1))))]))) False) (Q (Out.ret [(2, IV.d (D.bool false))]))) False) (Q (Out.exit 0 [(0, IV.d (D.sl 4 z1 x2 e3)), (3, IV.d (D.int IntKind.i64 i4))]))) := by kernel_rfl
theorem q116 (C J) (i1 : Int) (Q) : fnW F C R (L116) J d116 [.d (.int .i64 i1)] Q = (Q (some (IV.d (D.int IntKind.i64 (IntKind.wrap IntKind.i64 (-1 - i1))), [IV.d (D.int IntKind.i64 i1)]))) := by kernel_rfl
theorem q109 (C J) (z1 : Bool) (x2 : List D) (e3 : List D) (i4 : Int) (Q) : fnW F C R (L109) J d109 [.d (.sl 4 z1 x2 e3), .d (.int .i64 i4)] Q = (condW (decide (i4 < 0)) (∃ w0 w1, C 116 [IV.d (D.int IntKind.i64 23)] = some (IV.d (D.int IntKind.i64 w0), [IV.d w1]) ∧ condW (decide (i4 ≥ w0)) (Q (some (IV.tup [IV.d (D.int IntKind.i64 0), IV.d (D.bool true)], [IV.d (D.sl 4 z1 x2 e3), IV.d (D.int IntKind.i64 i4)]))) (Q (some (IV.tup [IV.d (D.int IntKind.i64 0), IV.d (D.bool false)], [IV.d (D.sl 4 z1 x2 e3), IV.d (D.int IntKind.i64 i4)])))) (condW (decide (i4 ≥ (↑(List.length x2) : Int))) (Q (some (IV.tup [IV.d (D.int IntKind.i64 0), IV.d (D.bool false)], [IV.d (D.sl 4 z1 x2 e3), IV.d (D.int IntKind.i64 i4)]))) (condW (decide (0 ≤ i4)) (∃ w2 w3 w4 w5, x2[Int.toNat i4]? = some (D.agg [D.str w2, D.int IntKind.i64 w3, D.int IntKind.i64 w4, D.int IntKind.i64 w5]) ∧ condW (w3 == 0) (Q (some (IV.tup [IV.d (D.int IntKind.i64 0), IV.d (D.bool false)], [IV.d (D.sl 4 z1 x2 e3), IV.d (D.int IntKind.i64 i4)]))) (condW (decide (0 ≤ i4)) (∃ w6 w7 w8 w9, x2[Int.toNat i4]? = some (D.agg [D.str w6, D.int IntKind.i64 w7, D.int IntKind.i64 w8, D.int IntKind.i64 w9]) ∧ Q (some (IV.tup [IV.d (D.int IntKind.i64 w8), IV.d (D.bool true)], [IV.d (D.sl 4 z1 x2 e3), IV.d (D.int IntKind.i64 i4)]))) False)) False))) := by kernel_rfl
theorem q95 (C J) (z1 : Bool) (x2 : List D) (e3 : List D) (z4 : Bool) (x5 : List D) (e6 : List D) (i7 : Int) (Q) : fnW F C R (L95) J d95 [.d (.sl 4 z1 x2 e3), .d (.sl 1 z4 x5 e6), .d (.int .i64 i7)] Q = (condW (decide (i7 ≥ (↑(List.length x5) : Int))) (Q (some (IV.tup [IV.d (D.int IntKind.i64 0), IV.d (D.bool false)], [IV.d (D.sl 4 z1 x2 e3), IV.d (D.sl 1 z4 x5 e6), IV.d (D.int IntKind.i64 i7)]))) (condW (decide (0 ≤ i7)) (∃ w0, x5[Int.toNat i7]? = some (D.int IntKind.i64 w0) ∧ ∃ w1 w2 w3 w4, C 109 [IV.d (D.sl 4 z1 x2 e3), IV.d (D.int IntKind.i64 w0)] = some (IV.tup [IV.d (D.int IntKind.i64 w1), IV.d (D.bool w2)], [IV.d w3, IV.d w4]) ∧ condW w2 (condW (decide (IntKind.wrap IntKind.i64 (1 + IntKind.wrap IntKind.i64 (w1 - 1)) > 0)) (∃ w5 w6, evG J d95 [1, 0] 0 [(0, IV.d (D.sl 4 z1 x2 e3)), (1, IV.d (D.sl 1 z4 x5 e6)), (2, IV.d (D.int IntKind.i64 (IntKind.wrap IntKind.i64 (i7 + 1)))), (8, IV.d (D.int IntKind.i64 (IntKind.wrap IntKind.i64 (1 + IntKind.wrap IntKind.i64 (w1 - 1)))))] = some (Out.ret [(6, IV.d (D.int IntKind.i64 w5)), (7, IV.d (D.bool w6))]) ∧ Q (some (IV.tup [IV.d (D.int IntKind.i64 w5), IV.d (D.bool w6)], [IV.d (D.sl 4 z1 x2 e3), IV.d (D.sl 1 z4 x5 e6), IV.d (D.int IntKind.i64 i7)]))) (Q (some (IV.tup [IV.d (D.int IntKind.i64 (IntKind.wrap IntKind.i64 (i7 + 1))), IV.d (D.bool true)], [IV.d (D.sl 4 z1 x2 e3), IV.d (D.sl 1 z4 x5 e6), IV.d (D.int IntKind.i64 i7)])))) (Q (some (IV.tup [IV.d (D.int IntKind.i64 0), IV.d (D.bool false)], [IV.d (D.sl 4 z1 x2 e3), IV.d (D.sl 1 z4 x5 e6), IV.d (D.int IntKind.i64 i7)])))) False)) := by kernel_rfl
theorem q95_l1000000a (C J) (z1 : Bool) (x2 : List D) (e3 : List D) (z4 : Bool) (x5 : List D) (e6 : List D) (i7 : Int) (i8 : Int) (Q) : wpR F C R (L95) J d95 [] [1,0] 0 [(0, .d (.sl 4 z1 x2 e3)), (1, .d (.sl 1 z4 x5 e6)), (2, .d (.int .i64 i7)), (8, .d (.int .i64 i8))] Q = (condW (decide (i7 ≥ (↑(List.length x5) : Int))) (Q (Out.ret [(6, IV.d (D.int IntKind.i64 0)), (7, IV.d (D.bool false))])) (condW (decide (0 ≤ i7)) (∃ w0, x5[Int.toNat i7]? = some (D.int IntKind.i64 w0) ∧ ∃ w1 w2 w3 w4, C 109 [IV.d (D.sl 4 z1 x2 e3), IV.d (D.int IntKind.i64 w0)] = some (IV.tup [IV.d (D.int IntKind.i64 w1), IV.d (D.bool w2)], [IV.d w3, IV.d w4]) ∧ condW w2 (condW (decide (IntKind.wrap IntKind.i64 (i8 + IntKind.wrap IntKind.i64 (w1 - 1)) > 0)) (Q (Out.goto 0 [(0, IV.d (D.sl 4 z1 x2 e3)), (1, IV.d (D.sl 1 z4 x5 e6)), (2, IV.d (D.int IntKind.i64 (IntKind.wrap IntKind.i64 (i7 + 1)))), (8, IV.d (D.int IntKind.i64 (IntKind.wrap IntKind.i64 (i8 + IntKind.wrap IntKind.i64 (w1 - 1)))))])) (Q (Out.ret [(6, IV.d (D.int IntKind.i64 (IntKind.wrap IntKind.i64 (i7 + 1)))), (7, IV.d (D.bool true))]))) (Q (Out.ret [(6, IV.d (D.int IntKind.i64 0)), (7, IV.d (D.bool false))]))) False)) := by kernel_rfl
theorem q78 (C J) (z1 : Bool) (x2 : List D) (e3 : List D) (z4 : Bool) (x5 : List D) (e6 : List D) (Q) : fnW F C R (L78) J d78 [.d (.sl 4 z1 x2 e3), .d (.sl 1 z4 x5 e6)] Q = (∃ w0 w1, C 44 [IV.d (D.sl 4 z1 x2 e3)] = some (IV.d (D.bool w0), [IV.d w1]) ∧ condW w0 (condW (decide ((↑(List.length x5) : Int) > 48)) (Q (some (IV.tup [IV.own true 3 1 [], IV.d (D.bool false)], [IV.d (D.sl 4 z1 x2 e3), IV.d (D.sl 1 z4 x5 e6)]))) (condW (0 == (↑(List.length x5) : Int)) (Q (some (IV.tup [IV.own true 3 1 [], IV.d (D.bool true)], [IV.d (D.sl 4 z1 x2 e3), IV.d (D.sl 1 z4 x5 e6)]))) (∃ w2 w3 w4 w5 w6, C 95 [IV.d (D.sl 4 z1 x2 e3), IV.d (D.sl 1 z4 x5 e6), IV.d (D.int IntKind.i64 0)] = some (IV.tup [IV.d (D.int IntKind.i64 w2), IV.d (D.bool w3)], [IV.d w4, IV.d w5, IV.d w6]) ∧ condW w3 (∃ w7 w8 w9, evG J d78 [1, 0] 0 [(0, IV.d (D.sl 4 z1 x2 e3)), (1, IV.d (D.sl 1 z4 x5 e6)), (6, IV.own false 3 1 [D.int IntKind.i64 0]), (7, IV.d (D.int IntKind.i64 w2))] = some (Out.ret [(4, IV.own w7 3 1 w8), (5, IV.d (D.bool w9))]) ∧ Q (some (IV.tup [IV.own w7 3 1 w8, IV.d (D.bool w9)], [IV.d (D.sl 4 z1 x2 e3), IV.d (D.sl 1 z4 x5 e6)]))) (Q (some (IV.tup [IV.own true 3 1 [], IV.d (D.bool false)], [IV.d (D.sl 4 z1 x2 e3), IV.d (D.sl 1 z4 x5 e6)])))))) (Q (some (IV.tup [IV.own true 3 1 [], IV.d (D.bool false)], [IV.d (D.sl 4 z1 x2 e3), IV.d (D.sl 1 z4 x5 e6)])))) := by kernel_rfl
theorem q78_l1000000a (C J) (z1 : Bool) (x2 : List D) (e3 : List D) (z4 : Bool) (x5 : List D) (e6 : List D) (z7 : Bool) (x8 : List D) (i9 : Int) (Q) : wpR F C R (L78) J d78 [] [1,0] 0 [(0, .d (.sl 4 z1 x2 e3)), (1, .d (.sl 1 z4 x5 e6)), (6, .own z7 3 1 x8), (7, .d (.int .i64 i9))] Q = (condW (i9 == (↑(List.length x5) : Int)) (Q (Out.ret [(4, IV.own z7 3 1 x8), (5, IV.d (D.bool true))])) (∃ w0 w1 w2 w3 w4, C 95 [IV.d (D.sl 4 z1 x2 e3), IV.d (D.sl 1 z4 x5 e6), IV.d (D.int IntKind.i64 i9)] = some (IV.tup [IV.d (D.int IntKind.i64 w0), IV.d (D.bool w1)], [IV.d w2, IV.d w3, IV.d w4]) ∧ condW w1 (condW (decide (List.length x8 + (0 + 1) ≤ 9223372036854775807)) (condW (decide ((List.length x8 + (0 + 1)) * 8 ≤ 140737488355328)) (Q (Out.goto 0 [(0, IV.d (D.sl 4 z1 x2 e3)), (1, IV.d (D.sl 1 z4 x5 e6)), (6, IV.own (z7 && false) 3 1 (x8 ++ [D.int IntKind.i64 i9])), (7, IV.d (D.int IntKind.i64 w0))])) False) False) (Q (Out.ret [(4, IV.own true 3 1 []), (5, IV.d (D.bool false))])))) := by kernel_rfl
theorem q77 (C J) (z1 : Bool) (x2 : List D) (e3 : List D) (z4 : Bool) (x5 : List D) (e6 : List D) (Q) : fnW F C R (L77) J d77 [.d (.sl 4 z1 x2 e3), .d (.sl 1 z4 x5 e6)] Q = (condW ((↑(List.length x5) : Int) == 0) (Q (some (IV.d (D.bool false), [IV.d (D.sl 4 z1 x2 e3), IV.d (D.sl 1 z4 x5 e6)]))) (∃ w0, x5[0]? = some (D.int IntKind.i64 w0) ∧ condW (decide (w0 < 0)) (Q (some (IV.d (D.bool false), [IV.d (D.sl 4 z1 x2 e3), IV.d (D.sl 1 z4 x5 e6)]))) (∃ w1, x5[0]? = some (D.int IntKind.i64 w1) ∧ condW (decide (w1 ≥ (↑(List.length x2) : Int))) (Q (some (IV.d (D.bool false), [IV.d (D.sl 4 z1 x2 e3), IV.d (D.sl 1 z4 x5 e6)]))) (∃ w2, x5[0]? = some (D.int IntKind.i64 w2) ∧ condW (decide (0 ≤ w2)) (∃ w3 w4 w5 w6, x2[Int.toNat w2]? = some (D.agg [D.str w3, D.int IntKind.i64 w4, D.int IntKind.i64 w5, D.int IntKind.i64 w6]) ∧ condW (w4 != 0) (Q (some (IV.d (D.bool false), [IV.d (D.sl 4 z1 x2 e3), IV.d (D.sl 1 z4 x5 e6)]))) (condW (decide (1 ≤ (↑(List.length x5) : Int))) (∃ w7 w8 w9 w10 w11, C 78 [IV.d (D.sl 4 z1 x2 e3), IV.d (D.sl 1 z4 (List.drop (Int.toNat 1) x5) [])] = some (IV.tup [IV.own w7 3 1 w8, IV.d (D.bool w9)], [IV.d w10, IV.d w11]) ∧ condW w9 (∃ w12, x5[0]? = some (D.int IntKind.i64 w12) ∧ condW (decide (0 ≤ w12)) (∃ w13 w14 w15 w16, x2[Int.toNat w12]? = some (D.agg [D.str w13, D.int IntKind.i64 w14, D.int IntKind.i64 w15, D.int IntKind.i64 w16]) ∧ condW ((↑(List.length w8) : Int) == w15) (Q (some (IV.d (D.bool true), [IV.d (D.sl 4 z1 x2 e3), IV.d (D.sl 1 z4 x5 e6)]))) (Q (some (IV.d (D.bool false), [IV.d (D.sl 4 z1 x2 e3), IV.d (D.sl 1 z4 x5 e6)])))) False) (Q (some (IV.d (D.bool false), [IV.d (D.sl 4 z1 x2 e3), IV.d (D.sl 1 z4 x5 e6)])))) False)) False)))) := by kernel_rfl
theorem q64 (C J) (z1 : Bool) (x2 : List D) (e3 : List D) (b4 : Bool) (z5 : Bool) (x6 : List D) (e7 : List D) (Q) : fnW F C R (L64) J d64 [.d (.sl 4 z1 x2 e3), .d (.agg [.bool b4, .sl 1 z5 x6 e7])] Q = (∃ w0 w1 w2, C 77 [IV.d (D.sl 4 z1 x2 e3), IV.d (D.sl 1 z5 x6 e7)] = some (IV.d (D.bool w0), [IV.d w1, IV.d w2]) ∧ condW w0 (Q (some (IV.d (D.bool true), [IV.d (D.sl 4 z1 x2 e3), IV.d (D.agg [D.bool b4, D.sl 1 z5 x6 e7])]))) (Q (some (IV.d (D.bool false), [IV.d (D.sl 4 z1 x2 e3), IV.d (D.agg [D.bool b4, D.sl 1 z5 x6 e7])])))) := by kernel_rfl
theorem q45 (C J) (z1 : Bool) (x2 : List D) (e3 : List D) (z4 : Bool) (x5 : List D) (e6 : List D) (Q) : fnW F C R (L45) J d45 [.d (.sl 4 z1 x2 e3), .d (.sl 2 z4 x5 e6)] Q = ((∃ w0 w1, evP F C J d45 [] [1, 1, 0, 1] [(0, IV.d (D.sl 4 z1 x2 e3)), (6, IV.d (D.int IntKind.i64 0)), (9, IV.d (D.sl 2 z4 x5 e6)), (10, IV.d (D.int IntKind.i64 (↑(List.length x5) : Int))), (11, IV.d (D.int IntKind.i64 0))] = some (Out.ret [(4, IV.d (D.int IntKind.i64 w0)), (5, IV.d (D.bool w1))]) ∧ Q (some (IV.tup [IV.d (D.int IntKind.i64 w0), IV.d (D.bool w1)], [IV.d (D.sl 4 z1 x2 e3), IV.d (D.sl 2 z4 x5 e6)]))) ∨ ∃ w2 w3 w4 w5 w6 w7 w8 w9 w10, evP F C J d45 [] [1, 1, 0, 1] [(0, IV.d (D.sl 4 z1 x2 e3)), (6, IV.d (D.int IntKind.i64 0)), (9, IV.d (D.sl 2 z4 x5 e6)), (10, IV.d (D.int IntKind.i64 (↑(List.length x5) : Int))), (11, IV.d (D.int IntKind.i64 0))] = some (Out.norm [(0, IV.d (D.sl 4 w2 w3 w4)), (6, IV.d (D.int IntKind.i64 w5)), (9, IV.d (D.sl 2 w6 w7 w8)), (10, IV.d (D.int IntKind.i64 w9)), (11, IV.d (D.int IntKind.i64 w10))]) ∧ Q (some (IV.tup [IV.d (D.int IntKind.i64 w5), IV.d (D.bool true)], [IV.d (D.sl 4 z1 x2 e3), IV.d (D.sl 2 z4 x5 e6)]))) := by kernel_rfl
theorem q45_l0a (C J) (z1 : Bool) (x2 : List D) (e3 : List D) (i4 : Int) (z5 : Bool) (x6 : List D) (e7 : List D) (i8 : Int) (i9 : Int) (Q) : wpQ F C R (L45) J d45 [] [1,1,0,1,0,0] [(0, .d (.sl 4 z1 x2 e3)), (6, .d (.int .i64 i4)), (9, .d (.sl 2 z5 x6 e7)), (10, .d (.int .i64 i8)), (11, .d (.int .i64 i9))] Q = (condW (decide (i9 < i8)) (condW (decide (0 ≤ i9)) (∃ w0 w1 w2 w3, x6[Int.toNat i9]? = some (D.agg [D.bool w0, D.sl 1 w1 w2 w3]) ∧ ∃ w4 w5 w6, C 64 [IV.d (D.sl 4 z1 x2 e3), IV.d (D.agg [D.bool w0, D.sl 1 w1 w2 w3])] = some (IV.d (D.bool w4), [IV.d w5, IV.d w6]) ∧ condW w4 (Q (Out.norm [(0, IV.d (D.sl 4 z1 x2 e3)), (6, IV.d (D.int IntKind.i64 (IntKind.wrap IntKind.i64 (i4 + (↑(List.length w2) : Int))))), (9, IV.d (D.sl 2 z5 x6 e7)), (10, IV.d (D.int IntKind.i64 i8)), (11, IV.d (D.int IntKind.i64 (IntKind.wrap IntKind.i64 (i9 + 1))))])) (Q (Out.ret [(4, IV.d (D.int IntKind.i64 0)), (5, IV.d (D.bool false))]))) False) (Q (Out.exit 0 [(0, IV.d (D.sl 4 z1 x2 e3)), (6, IV.d (D.int IntKind.i64 i4)), (9, IV.d (D.sl 2 z5 x6 e7)), (10, IV.d (D.int IntKind.i64 i8)), (11, IV.d (D.int IntKind.i64 i9))]))) := by kernel_rfl
theorem q65 (C J) (z1 : Bool) (x2 : List D) (e3 : List D) (z4 : Bool) (x5 : List D) (e6 : List D) (Q) : fnW F C R (L65) J d65 [.d (.sl 4 z1 x2 e3), .d (.sl 1 z4 x5 e6)] Q = (∃ w0 w1 w2 w3 w4, C 78 [IV.d (D.sl 4 z1 x2 e3), IV.d (D.sl 1 z4 x5 e6)] = some (IV.tup [IV.own w0 3 1 w1, IV.d (D.bool w2)], [IV.d w3, IV.d w4]) ∧ condW w2 (Q (some (IV.tup [IV.d (D.int IntKind.i64 (↑(List.length w1) : Int)), IV.d (D.int IntKind.i64 0)], [IV.d (D.sl 4 z1 x2 e3), IV.d (D.sl 1 z4 x5 e6)]))) (Q (some (IV.tup [IV.d (D.int IntKind.i64 0), IV.d (D.int IntKind.i64 200)], [IV.d (D.sl 4 z1 x2 e3), IV.d (D.sl 1 z4 x5 e6)])))) := by kernel_rfl
theorem q46 (C J) (z1 : Bool) (x2 : List D) (e3 : List D) (z4 : Bool) (x5 : List D) (e6 : List D) (Q) : fnW F C R (L46) J d46 [.d (.sl 4 z1 x2 e3), .d (.sl 1 z4 x5 e6)] Q = ((∃ w0 w1, evP F C J d46 [] [1, 1, 0, 1] [(0, IV.d (D.sl 4 z1 x2 e3)), (6, IV.d (D.int IntKind.i64 0)), (7, IV.d (D.int IntKind.i64 0)), (12, IV.d (D.sl 1 z4 x5 e6)), (13, IV.d (D.int IntKind.i64 (↑(List.length x5) : Int))), (14, IV.d (D.int IntKind.i64 0))] = some (Out.ret [(4, IV.d (D.int IntKind.i64 w0)), (5, IV.d (D.bool w1))]) ∧ Q (some (IV.tup [IV.d (D.int IntKind.i64 w0), IV.d (D.bool w1)], [IV.d (D.sl 4 z1 x2 e3), IV.d (D.sl 1 z4 x5 e6)]))) ∨ ∃ w2 w3 w4 w5 w6 w7 w8 w9 w10 w11, evP F C J d46 [] [1, 1, 0, 1] [(0, IV.d (D.sl 4 z1 x2 e3)), (6, IV.d (D.int IntKind.i64 0)), (7, IV.d (D.int IntKind.i64 0)), (12, IV.d (D.sl 1 z4 x5 e6)), (13, IV.d (D.int IntKind.i64 (↑(List.length x5) : Int))), (14, IV.d (D.int IntKind.i64 0))] = some (Out.norm [(0, IV.d (D.sl 4 w2 w3 w4)), (6, IV.d (D.int IntKind.i64 w5)), (7, IV.d (D.int IntKind.i64 w6)), (12, IV.d (D.sl 1 w7 w8 w9)), (13, IV.d (D.int IntKind.i64 w10)), (14, IV.d (D.int IntKind.i64 w11))]) ∧ Q (some (IV.tup [IV.d (D.int IntKind.i64 w5), IV.d (D.bool true)], [IV.d (D.sl 4 z1 x2 e3), IV.d (D.sl 1 z4 x5 e6)]))) := by kernel_rfl
theorem q46_l0a (C J) (z1 : Bool) (x2 : List D) (e3 : List D) (i4 : Int) (i5 : Int) (z6 : Bool) (x7 : List D) (e8 : List D) (i9 : Int) (i10 : Int) (Q) : wpQ F C R (L46) J d46 [] [1,1,0,1,0,0] [(0, .d (.sl 4 z1 x2 e3)), (6, .d (.int .i64 i4)), (7, .d (.int .i64 i5)), (12, .d (.sl 1 z6 x7 e8)), (13, .d (.int .i64 i9)), (14, .d (.int .i64 i10))] Q = (condW (decide (i10 < i9)) (condW (decide (0 ≤ i10)) (∃ w0 w1 w2, x7[Int.toNat i10]? = some (D.sl 1 w0 w1 w2) ∧ ∃ w3 w4 w5 w6, C 65 [IV.d (D.sl 4 z1 x2 e3), IV.d (D.sl 1 w0 w1 w2)] = some (IV.tup [IV.d (D.int IntKind.i64 w3), IV.d (D.int IntKind.i64 w4)], [IV.d w5, IV.d w6]) ∧ condW (i10 == 0) (condW (w4 != 0) (Q (Out.ret [(4, IV.d (D.int IntKind.i64 0)), (5, IV.d (D.bool false))])) (condW (w3 != w3) (Q (Out.ret [(4, IV.d (D.int IntKind.i64 0)), (5, IV.d (D.bool false))])) (Q (Out.norm [(0, IV.d (D.sl 4 z1 x2 e3)), (6, IV.d (D.int IntKind.i64 (IntKind.wrap IntKind.i64 (i4 + (↑(List.length w1) : Int))))), (7, IV.d (D.int IntKind.i64 w3)), (12, IV.d (D.sl 1 z6 x7 e8)), (13, IV.d (D.int IntKind.i64 i9)), (14, IV.d (D.int IntKind.i64 (IntKind.wrap IntKind.i64 (i10 + 1))))])))) (condW (w4 != 0) (Q (Out.ret [(4, IV.d (D.int IntKind.i64 0)), (5, IV.d (D.bool false))])) (condW (w3 != i5) (Q (Out.ret [(4, IV.d (D.int IntKind.i64 0)), (5, IV.d (D.bool false))])) (Q (Out.norm [(0, IV.d (D.sl 4 z1 x2 e3)), (6, IV.d (D.int IntKind.i64 (IntKind.wrap IntKind.i64 (i4 + (↑(List.length w1) : Int))))), (7, IV.d (D.int IntKind.i64 i5)), (12, IV.d (D.sl 1 z6 x7 e8)), (13, IV.d (D.int IntKind.i64 i9)), (14, IV.d (D.int IntKind.i64 (IntKind.wrap IntKind.i64 (i10 + 1))))]))))) False) (Q (Out.exit 0 [(0, IV.d (D.sl 4 z1 x2 e3)), (6, IV.d (D.int IntKind.i64 i4)), (7, IV.d (D.int IntKind.i64 i5)), (12, IV.d (D.sl 1 z6 x7 e8)), (13, IV.d (D.int IntKind.i64 i9)), (14, IV.d (D.int IntKind.i64 i10))]))) := by kernel_rfl
theorem q23 (C J) (z1 : Bool) (x2 : List D) (e3 : List D) (z4 : Bool) (x5 : List D) (e6 : List D) (z7 : Bool) (x8 : List D) (e9 : List D) (z10 : Bool) (x11 : List D) (e12 : List D) (Q) : fnW F C R (L23) J d23 [.d (.sl 4 z1 x2 e3), .d (.agg [.sl 2 z4 x5 e6, .sl 1 z7 x8 e9, .sl 2 z10 x11 e12])] Q = (∃ w0 w1, C 44 [IV.d (D.sl 4 z1 x2 e3)] = some (IV.d (D.bool w0), [IV.d w1]) ∧ condW w0 (condW (decide ((↑(List.length x5) : Int) > 5)) (Q (some (IV.d (D.bool false), [IV.d (D.sl 4 z1 x2 e3), IV.d (D.agg [D.sl 2 z4 x5 e6, D.sl 1 z7 x8 e9, D.sl 2 z10 x11 e12])]))) (condW (decide ((↑(List.length x8) : Int) > 3)) (Q (some (IV.d (D.bool false), [IV.d (D.sl 4 z1 x2 e3), IV.d (D.agg [D.sl 2 z4 x5 e6, D.sl 1 z7 x8 e9, D.sl 2 z10 x11 e12])]))) (condW (decide ((↑(List.length x11) : Int) > 3)) (Q (some (IV.d (D.bool false), [IV.d (D.sl 4 z1 x2 e3), IV.d (D.agg [D.sl 2 z4 x5 e6, D.sl 1 z7 x8 e9, D.sl 2 z10 x11 e12])]))) (∃ w2 w3 w4 w5, C 45 [IV.d (D.sl 4 z1 x2 e3), IV.d (D.sl 2 z4 x5 e6)] = some (IV.tup [IV.d (D.int IntKind.i64 w2), IV.d (D.bool w3)], [IV.d w4, IV.d w5]) ∧ condW w3 (∃ w6 w7 w8 w9, C 46 [IV.d (D.sl 4 z1 x2 e3), IV.d (D.sl 1 z7 x8 e9)] = some (IV.tup [IV.d (D.int IntKind.i64 w6), IV.d (D.bool w7)], [IV.d w8, IV.d w9]) ∧ condW w7 (∃ w10 w11 w12 w13, C 45 [IV.d (D.sl 4 z1 x2 e3), IV.d (D.sl 2 z10 x11 e12)] = some (IV.tup [IV.d (D.int IntKind.i64 w10), IV.d (D.bool w11)], [IV.d w12, IV.d w13]) ∧ condW w11 (condW (decide (IntKind.wrap IntKind.i64 (IntKind.wrap IntKind.i64 (w2 + w6) + w10) ≤ 240)) (Q (some (IV.d (D.bool true), [IV.d (D.sl 4 z1 x2 e3), IV.d (D.agg [D.sl 2 z4 x5 e6, D.sl 1 z7 x8 e9, D.sl 2 z10 x11 e12])]))) (Q (some (IV.d (D.bool false), [IV.d (D.sl 4 z1 x2 e3), IV.d (D.agg [D.sl 2 z4 x5 e6, D.sl 1 z7 x8 e9, D.sl 2 z10 x11 e12])])))) (Q (some (IV.d (D.bool false), [IV.d (D.sl 4 z1 x2 e3), IV.d (D.agg [D.sl 2 z4 x5 e6, D.sl 1 z7 x8 e9, D.sl 2 z10 x11 e12])])))) (∃ w14 w15 w16 w17, C 45 [IV.d (D.sl 4 z1 x2 e3), IV.d (D.sl 2 z10 x11 e12)] = some (IV.tup [IV.d (D.int IntKind.i64 w14), IV.d (D.bool w15)], [IV.d w16, IV.d w17]) ∧ condW w15 (Q (some (IV.d (D.bool false), [IV.d (D.sl 4 z1 x2 e3), IV.d (D.agg [D.sl 2 z4 x5 e6, D.sl 1 z7 x8 e9, D.sl 2 z10 x11 e12])]))) (Q (some (IV.d (D.bool false), [IV.d (D.sl 4 z1 x2 e3), IV.d (D.agg [D.sl 2 z4 x5 e6, D.sl 1 z7 x8 e9, D.sl 2 z10 x11 e12])]))))) (∃ w18 w19 w20 w21, C 46 [IV.d (D.sl 4 z1 x2 e3), IV.d (D.sl 1 z7 x8 e9)] = some (IV.tup [IV.d (D.int IntKind.i64 w18), IV.d (D.bool w19)], [IV.d w20, IV.d w21]) ∧ condW w19 (∃ w22 w23 w24 w25, C 45 [IV.d (D.sl 4 z1 x2 e3), IV.d (D.sl 2 z10 x11 e12)] = some (IV.tup [IV.d (D.int IntKind.i64 w22), IV.d (D.bool w23)], [IV.d w24, IV.d w25]) ∧ condW w23 (Q (some (IV.d (D.bool false), [IV.d (D.sl 4 z1 x2 e3), IV.d (D.agg [D.sl 2 z4 x5 e6, D.sl 1 z7 x8 e9, D.sl 2 z10 x11 e12])]))) (Q (some (IV.d (D.bool false), [IV.d (D.sl 4 z1 x2 e3), IV.d (D.agg [D.sl 2 z4 x5 e6, D.sl 1 z7 x8 e9, D.sl 2 z10 x11 e12])])))) (∃ w26 w27 w28 w29, C 45 [IV.d (D.sl 4 z1 x2 e3), IV.d (D.sl 2 z10 x11 e12)] = some (IV.tup [IV.d (D.int IntKind.i64 w26), IV.d (D.bool w27)], [IV.d w28, IV.d w29]) ∧ condW w27 (Q (some (IV.d (D.bool false), [IV.d (D.sl 4 z1 x2 e3), IV.d (D.agg [D.sl 2 z4 x5 e6, D.sl 1 z7 x8 e9, D.sl 2 z10 x11 e12])]))) (Q (some (IV.d (D.bool false), [IV.d (D.sl 4 z1 x2 e3), IV.d (D.agg [D.sl 2 z4 x5 e6, D.sl 1 z7 x8 e9, D.sl 2 z10 x11 e12])]))))))))) (Q (some (IV.d (D.bool false), [IV.d (D.sl 4 z1 x2 e3), IV.d (D.agg [D.sl 2 z4 x5 e6, D.sl 1 z7 x8 e9, D.sl 2 z10 x11 e12])])))) := by kernel_rfl
theorem q9 (C J) (z1 : Bool) (x2 : List D) (e3 : List D) (i4 : Int) (i5 : Int) (i6 : Int) (i7 : Int) (i8 : Int) (i9 : Int) (i10 : Int) (z11 : Bool) (x12 : List D) (e13 : List D) (z14 : Bool) (x15 : List D) (e16 : List D) (z17 : Bool) (x18 : List D) (e19 : List D) (Q) : fnW F C R (L9) J d9 [.d (.sl 4 z1 x2 e3), .d (.agg [.int .i64 i4, .int .i64 i5, .int .i64 i6, .int .i64 i7, .int .i64 i8, .int .i64 i9, .int .i64 i10, .sl 2 z11 x12 e13, .sl 1 z14 x15 e16, .sl 2 z17 x18 e19])] Q = (∃ w0 w1, C 22 [IV.d (D.agg [D.int IntKind.i64 i4, D.int IntKind.i64 i5, D.int IntKind.i64 i6, D.int IntKind.i64 i7, D.int IntKind.i64 i8, D.int IntKind.i64 i9, D.int IntKind.i64 i10, D.sl 2 z11 x12 e13, D.sl 1 z14 x15 e16, D.sl 2 z17 x18 e19])] = some (IV.d (D.bool w0), [IV.d w1]) ∧ condW w0 (∃ w2 w3 w4, C 23 [IV.d (D.sl 4 z1 x2 e3), IV.d (D.agg [D.sl 2 z11 x12 e13, D.sl 1 z14 x15 e16, D.sl 2 z17 x18 e19])] = some (IV.d (D.bool w2), [IV.d w3, IV.d w4]) ∧ condW w2 (Q (some (IV.d (D.bool true), [IV.d (D.sl 4 z1 x2 e3), IV.d (D.agg [D.int IntKind.i64 i4, D.int IntKind.i64 i5, D.int IntKind.i64 i6, D.int IntKind.i64 i7, D.int IntKind.i64 i8, D.int IntKind.i64 i9, D.int IntKind.i64 i10, D.sl 2 z11 x12 e13, D.sl 1 z14 x15 e16, D.sl 2 z17 x18 e19])]))) (Q (some (IV.d (D.bool false), [IV.d (D.sl 4 z1 x2 e3), IV.d (D.agg [D.int IntKind.i64 i4, D.int IntKind.i64 i5, D.int IntKind.i64 i6, D.int IntKind.i64 i7, D.int IntKind.i64 i8, D.int IntKind.i64 i9, D.int IntKind.i64 i10, D.sl 2 z11 x12 e13, D.sl 1 z14 x15 e16, D.sl 2 z17 x18 e19])])))) (Q (some (IV.d (D.bool false), [IV.d (D.sl 4 z1 x2 e3), IV.d (D.agg [D.int IntKind.i64 i4, D.int IntKind.i64 i5, D.int IntKind.i64 i6, D.int IntKind.i64 i7, D.int IntKind.i64 i8, D.int IntKind.i64 i9, D.int IntKind.i64 i10, D.sl 2 z11 x12 e13, D.sl 1 z14 x15 e16, D.sl 2 z17 x18 e19])])))) := by kernel_rfl
theorem q36 (C J) (z1 : Bool) (x2 : List D) (z3 : Bool) (x4 : List D) (e5 : List D) (Q) : fnW F C R (L36) J d36 [.own z1 3 1 x2, .d (.sl 2 z3 x4 e5)] Q = (condW (decide (List.length x2 + (0 + 1) ≤ 9223372036854775807)) (condW (decide ((List.length x2 + (0 + 1)) * 8 ≤ 140737488355328)) (∃ w0 w1 w2 w3 w4 w5 w6, evP F C J d36 [] [1, 1, 0, 1] [(0, IV.own (z1 && false) 3 1 (x2 ++ [D.int IntKind.i64 (↑(List.length x4) : Int)])), (13, IV.d (D.sl 2 z3 x4 e5)), (14, IV.d (D.int IntKind.i64 (↑(List.length x4) : Int))), (15, IV.d (D.int IntKind.i64 0))] = some (Out.norm [(0, IV.own w0 3 1 w1), (13, IV.d (D.sl 2 w2 w3 w4)), (14, IV.d (D.int IntKind.i64 w5)), (15, IV.d (D.int IntKind.i64 w6))]) ∧ Q (some (IV.own w0 3 1 w1, [IV.dead, IV.d (D.sl 2 z3 x4 e5)]))) False) False) := by kernel_rfl
theorem q36_l0a (C J) (z1 : Bool) (x2 : List D) (z3 : Bool) (x4 : List D) (e5 : List D) (i6 : Int) (i7 : Int) (Q) : wpQ F C R (L36) J d36 [] [1,1,0,1,0,0] [(0, .own z1 3 1 x2), (13, .d (.sl 2 z3 x4 e5)), (14, .d (.int .i64 i6)), (15, .d (.int .i64 i7))] Q = (condW (decide (i7 < i6)) (condW (decide (0 ≤ i7)) (∃ w0 w1 w2 w3, x4[Int.toNat i7]? = some (D.agg [D.bool w0, D.sl 1 w1 w2 w3]) ∧ condW w0 (condW (decide (List.length x2 + (0 + 1 + 1) ≤ 9223372036854775807)) (condW (decide ((List.length x2 + (0 + 1 + 1)) * 8 ≤ 140737488355328)) (condW (decide (List.length (x2 ++ [D.int IntKind.i64 1, D.int IntKind.i64 (↑(List.length w2) : Int)]) + List.length w2 ≤ 9223372036854775807)) (condW (decide ((List.length (x2 ++ [D.int IntKind.i64 1, D.int IntKind.i64 (↑(List.length w2) : Int)]) + List.length w2) * 8 ≤ 140737488355328)) (Q (Out.norm [(0, IV.own (z1 && false && List.isEmpty w2) 3 1 (x2 ++ [D.int IntKind.i64 1, D.int IntKind.i64 (↑(List.length w2) : Int)] ++ w2)), (13, IV.d (D.sl 2 z3 x4 e5)), (14, IV.d (D.int IntKind.i64 i6)), (15, IV.d (D.int IntKind.i64 (IntKind.wrap IntKind.i64 (i7 + 1))))])) False) False) False) False) (condW (decide (List.length x2 + (0 + 1 + 1) ≤ 9223372036854775807)) (condW (decide ((List.length x2 + (0 + 1 + 1)) * 8 ≤ 140737488355328)) (condW (decide (List.length (x2 ++ [D.int IntKind.i64 0, D.int IntKind.i64 (↑(List.length w2) : Int)]) + List.length w2 ≤ 9223372036854775807)) (condW (decide ((List.length (x2 ++ [D.int IntKind.i64 0, D.int IntKind.i64 (↑(List.length w2) : Int)]) + List.length w2) * 8 ≤ 140737488355328)) (Q (Out.norm [(0, IV.own (z1 && false && List.isEmpty w2) 3 1 (x2 ++ [D.int IntKind.i64 0, D.int IntKind.i64 (↑(List.length w2) : Int)] ++ w2)), (13, IV.d (D.sl 2 z3 x4 e5)), (14, IV.d (D.int IntKind.i64 i6)), (15, IV.d (D.int IntKind.i64 (IntKind.wrap IntKind.i64 (i7 + 1))))])) False) False) False) False)) False) (Q (Out.exit 0 [(0, IV.own z1 3 1 x2), (13, IV.d (D.sl 2 z3 x4 e5)), (14, IV.d (D.int IntKind.i64 i6)), (15, IV.d (D.int IntKind.i64 i7))]))) := by kernel_rfl
theorem q17 (C J) (i1 : Int) (i2 : Int) (i3 : Int) (i4 : Int) (i5 : Int) (i6 : Int) (i7 : Int) (z8 : Bool) (x9 : List D) (e10 : List D) (z11 : Bool) (x12 : List D) (e13 : List D) (z14 : Bool) (x15 : List D) (e16 : List D) (Q) : fnW F C R (L17) J d17 [.d (.agg [.int .i64 i1, .int .i64 i2, .int .i64 i3, .int .i64 i4, .int .i64 i5, .int .i64 i6, .int .i64 i7, .sl 2 z8 x9 e10, .sl 1 z11 x12 e13, .sl 2 z14 x15 e16])] Q = (∃ w0 w1 w2, C 36 [IV.own false 3 1 [D.int IntKind.i64 i1, D.int IntKind.i64 i2, D.int IntKind.i64 i3, D.int IntKind.i64 i4, D.int IntKind.i64 i5, D.int IntKind.i64 i6, D.int IntKind.i64 i7], IV.d (D.sl 2 z8 x9 e10)] = some (IV.own w0 3 1 w1, [IV.dead, IV.d w2]) ∧ condW (decide (List.length w1 + (0 + 1) ≤ 9223372036854775807)) (condW (decide ((List.length w1 + (0 + 1)) * 8 ≤ 140737488355328)) (∃ w3 w4 w5 w6 w7 w8 w9 w10 w11 w12 w13 w14 w15 w16 w17 w18 w19 w20 w21 w22 w23 w24 w25, evP F C J d17 [] [1, 1, 1, 0, 1] [(1, IV.dbox 28 0 [D.int IntKind.i64 i1, D.int IntKind.i64 i2, D.int IntKind.i64 i3, D.int IntKind.i64 i4, D.int IntKind.i64 i5, D.int IntKind.i64 i6, D.int IntKind.i64 i7, D.sl 2 z8 x9 e10, D.sl 1 z11 x12 e13, D.sl 2 z14 x15 e16]), (3, IV.own (w0 && false) 3 1 (w1 ++ [D.int IntKind.i64 (↑(List.length x12) : Int)])), (37, IV.d (D.sl 1 z11 x12 e13)), (38, IV.d (D.int IntKind.i64 (↑(List.length x12) : Int))), (39, IV.d (D.int IntKind.i64 0))] = some (Out.norm [(1, IV.dbox 28 0 [D.int IntKind.i64 w3, D.int IntKind.i64 w4, D.int IntKind.i64 w5, D.int IntKind.i64 w6, D.int IntKind.i64 w7, D.int IntKind.i64 w8, D.int IntKind.i64 w9, D.sl 2 w10 w11 w12, D.sl 1 w13 w14 w15, D.sl 2 w16 w17 w18]), (3, IV.own w19 3 1 w20), (37, IV.d (D.sl 1 w21 w22 w23)), (38, IV.d (D.int IntKind.i64 w24)), (39, IV.d (D.int IntKind.i64 w25))]) ∧ ∃ w26 w27 w28, C 36 [IV.own w19 3 1 w20, IV.d (D.sl 2 w16 w17 w18)] = some (IV.own w26 3 1 w27, [IV.dead, IV.d w28]) ∧ condW (decide ((↑(List.length w27) : Int) = (↑(List.length w27) : Int))) (condW (decide ((↑16 : Int) * (↑(List.length w27) : Int) ≤ 281474976710656)) (condW (decide ((↑(List.length w27) : Int) ≤ 9223372036854775807)) (∃ w29 w30 w31 w32 w33 w34, evP F C J d17 [] [1, 1, 1, 1, 1, 1, 0, 1] [(6, IV.own false 9 1 (List.replicate (Int.toNat (↑(List.length w27) : Int)) (D.str { data := { toList := [] } }))), (59, IV.own w26 3 1 w27), (60, IV.d (D.int IntKind.i64 (↑(List.length w27) : Int))), (61, IV.d (D.int IntKind.i64 0))] = some (Out.norm [(6, IV.own w29 9 1 w30), (59, IV.own w31 3 1 w32), (60, IV.d (D.int IntKind.i64 w33)), (61, IV.d (D.int IntKind.i64 w34))]) ∧ ∃ w35 w36 w37, C 38 [IV.d (D.sl 1 w29 w30 []), IV.d (D.str { data := #[32] })] = some (IV.d (D.str w35), [IV.d w36, IV.d w37]) ∧ Q (some (IV.d (D.str w35), [IV.d (D.agg [D.int IntKind.i64 i1, D.int IntKind.i64 i2, D.int IntKind.i64 i3, D.int IntKind.i64 i4, D.int IntKind.i64 i5, D.int IntKind.i64 i6, D.int IntKind.i64 i7, D.sl 2 z8 x9 e10, D.sl 1 z11 x12 e13, D.sl 2 z14 x15 e16])]))) False) False) False) False) False) := by kernel_rfl
theorem q17_l0a (C J) (i1 : Int) (i2 : Int) (i3 : Int) (i4 : Int) (i5 : Int) (i6 : Int) (i7 : Int) (z8 : Bool) (x9 : List D) (e10 : List D) (z11 : Bool) (x12 : List D) (e13 : List D) (z14 : Bool) (x15 : List D) (e16 : List D) (z17 : Bool) (x18 : List D) (z19 : Bool) (x20 : List D) (e21 : List D) (i22 : Int) (i23 : Int) (Q) : wpQ F C R (L17) J d17 [] [1,1,1,0,1,0,0] [(1, .dbox 28 0 [.int .i64 i1, .int .i64 i2, .int .i64 i3, .int .i64 i4, .int .i64 i5, .int .i64 i6, .int .i64 i7, .sl 2 z8 x9 e10, .sl 1 z11 x12 e13, .sl 2 z14 x15 e16]), (3, .own z17 3 1 x18), (37, .d (.sl 1 z19 x20 e21)), (38, .d (.int .i64 i22)), (39, .d (.int .i64 i23))] Q = (condW (decide (i23 < i22)) (condW (decide (0 ≤ i23)) (∃ w0 w1 w2, x20[Int.toNat i23]? = some (D.sl 1 w0 w1 w2) ∧ condW (decide (List.length x18 + (0 + 1) ≤ 9223372036854775807)) (condW (decide ((List.length x18 + (0 + 1)) * 8 ≤ 140737488355328)) (condW (decide (List.length (x18 ++ [D.int IntKind.i64 (↑(List.length w1) : Int)]) + List.length w1 ≤ 9223372036854775807)) (condW (decide ((List.length (x18 ++ [D.int IntKind.i64 (↑(List.length w1) : Int)]) + List.length w1) * 8 ≤ 140737488355328)) (Q (Out.norm [(1, IV.dbox 28 0 [D.int IntKind.i64 i1, D.int IntKind.i64 i2, D.int IntKind.i64 i3, D.int IntKind.i64 i4, D.int IntKind.i64 i5, D.int IntKind.i64 i6, D.int IntKind.i64 i7, D.sl 2 z8 x9 e10, D.sl 1 z11 x12 e13, D.sl 2 z14 x15 e16]), (3, IV.own (z17 && false && List.isEmpty w1) 3 1 (x18 ++ [D.int IntKind.i64 (↑(List.length w1) : Int)] ++ w1)), (37, IV.d (D.sl 1 z19 x20 e21)), (38, IV.d (D.int IntKind.i64 i22)), (39, IV.d (D.int IntKind.i64 (IntKind.wrap IntKind.i64 (i23 + 1))))])) False) False) False) False) False) (Q (Out.exit 0 [(1, IV.dbox 28 0 [D.int IntKind.i64 i1, D.int IntKind.i64 i2, D.int IntKind.i64 i3, D.int IntKind.i64 i4, D.int IntKind.i64 i5, D.int IntKind.i64 i6, D.int IntKind.i64 i7, D.sl 2 z8 x9 e10, D.sl 1 z11 x12 e13, D.sl 2 z14 x15 e16]), (3, IV.own z17 3 1 x18), (37, IV.d (D.sl 1 z19 x20 e21)), (38, IV.d (D.int IntKind.i64 i22)), (39, IV.d (D.int IntKind.i64 i23))]))) := by kernel_rfl
theorem q17_l2a (C J) (z1 : Bool) (x2 : List D) (z3 : Bool) (x4 : List D) (i5 : Int) (i6 : Int) (Q) : wpQ F C R (L17) J d17 [] [1,1,1,1,1,1,0,1,0,0] [(6, .own z1 9 1 x2), (59, .own z3 3 1 x4), (60, .d (.int .i64 i5)), (61, .d (.int .i64 i6))] Q = (condW (decide (i6 < i5)) (condW (decide (0 ≤ i6)) (∃ w0, x4[Int.toNat i6]? = some w0 ∧ ∃ w1, x4[Int.toNat i6]? = some (D.int IntKind.i64 w1) ∧ ∃ w2 w3, C 37 [IV.d (D.int IntKind.i64 w1)] = some (IV.d (D.str w2), [IV.d w3]) ∧ condW (decide (0 ≤ i6)) (∃ w4, x2[Int.toNat i6]? = some w4 ∧ ∃ w5, x2[Int.toNat i6]? = some (D.str w5) ∧ Q (Out.norm [(6, IV.own z1 9 1 (List.set x2 (Int.toNat i6) (D.str w2))), (59, IV.own z3 3 1 x4), (60, IV.d (D.int IntKind.i64 i5)), (61, IV.d (D.int IntKind.i64 (IntKind.wrap IntKind.i64 (i6 + 1))))])) False) False) (Q (Out.exit 2 [(6, IV.own z1 9 1 x2), (59, IV.own z3 3 1 x4), (60, IV.d (D.int IntKind.i64 i5)), (61, IV.d (D.int IntKind.i64 i6))]))) := by kernel_rfl
theorem q6 (C J) (z1 : Bool) (x2 : List D) (e3 : List D) (i4 : Int) (i5 : Int) (i6 : Int) (i7 : Int) (i8 : Int) (i9 : Int) (i10 : Int) (z11 : Bool) (x12 : List D) (e13 : List D) (z14 : Bool) (x15 : List D) (e16 : List D) (z17 : Bool) (x18 : List D) (e19 : List D) (Q) : fnW F C R (L6) J d6 [.d (.sl 4 z1 x2 e3), .d (.agg [.int .i64 i4, .int .i64 i5, .int .i64 i6, .int .i64 i7, .int .i64 i8, .int .i64 i9, .int .i64 i10, .sl 2 z11 x12 e13, .sl 1 z14 x15 e16, .sl 2 z17 x18 e19])] Q = (∃ w0 w1 w2, C 9 [IV.d (D.sl 4 z1 x2 e3), IV.d (D.agg [D.int IntKind.i64 i4, D.int IntKind.i64 i5, D.int IntKind.i64 i6, D.int IntKind.i64 i7, D.int IntKind.i64 i8, D.int IntKind.i64 i9, D.int IntKind.i64 i10, D.sl 2 z11 x12 e13, D.sl 1 z14 x15 e16, D.sl 2 z17 x18 e19])] = some (IV.d (D.bool w0), [IV.d w1, IV.d w2]) ∧ condW w0 (∃ w3 w4, C 17 [IV.d (D.agg [D.int IntKind.i64 i4, D.int IntKind.i64 i5, D.int IntKind.i64 i6, D.int IntKind.i64 i7, D.int IntKind.i64 i8, D.int IntKind.i64 i9, D.int IntKind.i64 i10, D.sl 2 z11 x12 e13, D.sl 1 z14 x15 e16, D.sl 2 z17 x18 e19])] = some (IV.d (D.str w3), [IV.d w4]) ∧ Q (some (IV.tup [IV.d (D.str w3), IV.d (D.int IntKind.i64 0)], [IV.d (D.sl 4 z1 x2 e3), IV.d (D.agg [D.int IntKind.i64 i4, D.int IntKind.i64 i5, D.int IntKind.i64 i6, D.int IntKind.i64 i7, D.int IntKind.i64 i8, D.int IntKind.i64 i9, D.int IntKind.i64 i10, D.sl 2 z11 x12 e13, D.sl 1 z14 x15 e16, D.sl 2 z17 x18 e19])]))) (Q (some (IV.tup [IV.d (D.str { data := #[] }), IV.d (D.int IntKind.i64 1700)], [IV.d (D.sl 4 z1 x2 e3), IV.d (D.agg [D.int IntKind.i64 i4, D.int IntKind.i64 i5, D.int IntKind.i64 i6, D.int IntKind.i64 i7, D.int IntKind.i64 i8, D.int IntKind.i64 i9, D.int IntKind.i64 i10, D.sl 2 z11 x12 e13, D.sl 1 z14 x15 e16, D.sl 2 z17 x18 e19])])))) := by kernel_rfl
theorem q75 (C J) (i1 : Int) (Q) : fnW F C R (L75) J d75 [.d (.int .u8 i1)] Q = (condW (decide (i1 ≥ 97)) (condW (decide (i1 ≤ 122)) (Q (some (IV.d (D.bool true), [IV.d (D.int IntKind.u8 i1)]))) (Q (some (IV.d (D.bool false), [IV.d (D.int IntKind.u8 i1)])))) (Q (some (IV.d (D.bool false), [IV.d (D.int IntKind.u8 i1)])))) := by kernel_rfl
theorem q58 (C J) (s1 : ByteArray) (i2 : Int) (i3 : Int) (i4 : Int) (Q) : fnW F C R (L58) J d58 [.d (.agg [.str s1, .int .i64 i2, .int .i64 i3, .int .i64 i4])] Q = (condW (decide ((↑(ByteArray.size s1) : Int) < 1)) (Q (some (IV.d (D.bool false), [IV.d (D.agg [D.str s1, D.int IntKind.i64 i2, D.int IntKind.i64 i3, D.int IntKind.i64 i4])]))) (condW (decide ((↑(ByteArray.size s1) : Int) > 8)) (Q (some (IV.d (D.bool false), [IV.d (D.agg [D.str s1, D.int IntKind.i64 i2, D.int IntKind.i64 i3, D.int IntKind.i64 i4])]))) (condW (decide (0 < (↑(ByteArray.size s1) : Int))) (∃ w0 w1, C 75 [IV.d (D.int IntKind.u8 (byteAt s1 (Int.toNat 0)))] = some (IV.d (D.bool w0), [IV.d w1]) ∧ condW w0 ((∃ w2, evP F C J d58 [] [1, 1, 0, 1] [(1, IV.dbox 84 0 [D.str s1, D.int IntKind.i64 i2, D.int IntKind.i64 i3, D.int IntKind.i64 i4]), (3, IV.d (D.int IntKind.i64 0))] = some (Out.ret [(2, IV.d (D.bool w2))]) ∧ Q (some (IV.d (D.bool w2), [IV.d (D.agg [D.str s1, D.int IntKind.i64 i2, D.int IntKind.i64 i3, D.int IntKind.i64 i4])]))) ∨ ∃ w3 w4 w5 w6 w7, evP F C J d58 [] [1, 1, 0, 1] [(1, IV.dbox 84 0 [D.str s1, D.int IntKind.i64 i2, D.int IntKind.i64 i3, D.int IntKind.i64 i4]), (3, IV.d (D.int IntKind.i64 0))] = some (Out.norm [(1, IV.dbox 84 0 [D.str w3, D.int IntKind.i64 w4, D.int IntKind.i64 w5, D.int IntKind.i64 w6]), (3, IV.d (D.int IntKind.i64 w7))]) ∧ condW (decide (w4 ≥ 0)) (condW (decide (w4 ≤ 2)) (condW (decide (w5 ≥ 0)) (condW (decide (w5 ≤ 3)) (condW (decide (w6 ≥ 1)) (condW (decide (w6 ≤ 20)) (Q (some (IV.d (D.bool true), [IV.d (D.agg [D.str s1, D.int IntKind.i64 i2, D.int IntKind.i64 i3, D.int IntKind.i64 i4])]))) (Q (some (IV.d (D.bool false), [IV.d (D.agg [D.str s1, D.int IntKind.i64 i2, D.int IntKind.i64 i3, D.int IntKind.i64 i4])])))) (Q (some (IV.d (D.bool false), [IV.d (D.agg [D.str s1, D.int IntKind.i64 i2, D.int IntKind.i64 i3, D.int IntKind.i64 i4])])))) (Q (some (IV.d (D.bool false), [IV.d (D.agg [D.str s1, D.int IntKind.i64 i2, D.int IntKind.i64 i3, D.int IntKind.i64 i4])])))) (Q (some (IV.d (D.bool false), [IV.d (D.agg [D.str s1, D.int IntKind.i64 i2, D.int IntKind.i64 i3, D.int IntKind.i64 i4])])))) (Q (some (IV.d (D.bool false), [IV.d (D.agg [D.str s1, D.int IntKind.i64 i2, D.int IntKind.i64 i3, D.int IntKind.i64 i4])])))) (Q (some (IV.d (D.bool false), [IV.d (D.agg [D.str s1, D.int IntKind.i64 i2, D.int IntKind.i64 i3, D.int IntKind.i64 i4])])))) (Q (some (IV.d (D.bool false), [IV.d (D.agg [D.str s1, D.int IntKind.i64 i2, D.int IntKind.i64 i3, D.int IntKind.i64 i4])])))) False))) := by kernel_rfl
theorem q58_l0a (C J) (s1 : ByteArray) (i2 : Int) (i3 : Int) (i4 : Int) (i5 : Int) (Q) : wpQ F C R (L58) J d58 [] [1,1,0,1,0,0] [(1, .dbox 84 0 [.str s1, .int .i64 i2, .int .i64 i3, .int .i64 i4]), (3, .d (.int .i64 i5))] Q = (condW (decide (i5 < (↑(ByteArray.size s1) : Int))) (condW (decide (0 ≤ i5)) (condW (decide (i5 < (↑(ByteArray.size s1) : Int))) (∃ w0 w1, C 75 [IV.d (D.int IntKind.u8 (byteAt s1 (Int.toNat i5)))] = some (IV.d (D.bool w0), [IV.d w1]) ∧ condW w0 (Q (Out.norm [(1, IV.dbox 84 0 [D.str s1, D.int IntKind.i64 i2, D.int IntKind.i64 i3, D.int IntKind.i64 i4]), (3, IV.d (D.int IntKind.i64 (IntKind.wrap IntKind.i64 (i5 + 1))))])) (condW (decide (0 ≤ i5)) (condW (decide (i5 < (↑(ByteArray.size s1) : Int))) (condW (decide (byteAt s1 (Int.toNat i5) < 48)) (Q (Out.ret [(2, IV.d (D.bool false))])) (condW (decide (0 ≤ i5)) (condW (decide (i5 < (↑(ByteArray.size s1) : Int))) (condW (decide (byteAt s1 (Int.toNat i5) > 57)) (Q (Out.ret [(2, IV.d (D.bool false))])) (Q (Out.norm [(1, IV.dbox 84 0 [D.str s1, D.int IntKind.i64 i2, D.int IntKind.i64 i3, D.int IntKind.i64 i4]), (3, IV.d (D.int IntKind.i64 (IntKind.wrap IntKind.i64 (i5 + 1))))]))) False) False)) False) False)) False) False) (Q (Out.exit 0 [(1, IV.dbox 84 0 [D.str s1, D.int IntKind.i64 i2, D.int IntKind.i64 i3, D.int IntKind.i64 i4]), (3, IV.d (D.int IntKind.i64 i5))]))) := by kernel_rfl
theorem q59 (C J) (z1 : Bool) (x2 : List D) (e3 : List D) (s4 : ByteArray) (Q) : fnW F C R (L59) J d59 [.d (.sl 4 z1 x2 e3), .d (.str s4)] Q = ((∃ w0, evP F C J d59 [] [1, 0, 1] [(0, IV.d (D.sl 4 z1 x2 e3)), (1, IV.d (D.str s4)), (5, IV.d (D.int IntKind.i64 0))] = some (Out.ret [(4, IV.d (D.int IntKind.i64 w0))]) ∧ Q (some (IV.d (D.int IntKind.i64 w0), [IV.d (D.sl 4 z1 x2 e3), IV.d (D.str s4)]))) ∨ ∃ w1 w2 w3 w4 w5, evP F C J d59 [] [1, 0, 1] [(0, IV.d (D.sl 4 z1 x2 e3)), (1, IV.d (D.str s4)), (5, IV.d (D.int IntKind.i64 0))] = some (Out.norm [(0, IV.d (D.sl 4 w1 w2 w3)), (1, IV.d (D.str w4)), (5, IV.d (D.int IntKind.i64 w5))]) ∧ Q (some (IV.d (D.int IntKind.i64 (-1)), [IV.d (D.sl 4 z1 x2 e3), IV.d (D.str s4)]))) := by kernel_rfl
theorem q59_l0a (C J) (z1 : Bool) (x2 : List D) (e3 : List D) (s4 : ByteArray) (i5 : Int) (Q) : wpQ F C R (L59) J d59 [] [1,0,1,0,0] [(0, .d (.sl 4 z1 x2 e3)), (1, .d (.str s4)), (5, .d (.int .i64 i5))] Q = (condW (decide (i5 < (↑(List.length x2) : Int))) (condW (decide (0 ≤ i5)) (∃ w0 w1 w2 w3, x2[Int.toNat i5]? = some (D.agg [D.str w0, D.int IntKind.i64 w1, D.int IntKind.i64 w2, D.int IntKind.i64 w3]) ∧ condW (ByteArray.toList w0 == ByteArray.toList s4) (Q (Out.ret [(4, IV.d (D.int IntKind.i64 i5))])) (Q (Out.norm [(0, IV.d (D.sl 4 z1 x2 e3)), (1, IV.d (D.str s4)), (5, IV.d (D.int IntKind.i64 (IntKind.wrap IntKind.i64 (i5 + 1))))]))) False) (Q (Out.exit 0 [(0, IV.d (D.sl 4 z1 x2 e3)), (1, IV.d (D.str s4)), (5, IV.d (D.int IntKind.i64 i5))]))) := by kernel_rfl
theorem q39 (C J) (z1 : Bool) (x2 : List D) (e3 : List D) (Q) : fnW F C R (L39) J d39 [.d (.sl 4 z1 x2 e3)] Q = (condW (decide ((↑(List.length x2) : Int) < 1)) (Q (some (IV.d (D.bool false), [IV.d (D.sl 4 z1 x2 e3)]))) (condW (decide ((↑(List.length x2) : Int) > 20)) (Q (some (IV.d (D.bool false), [IV.d (D.sl 4 z1 x2 e3)]))) (∃ w0 w1 w2 w3, x2[0]? = some (D.agg [D.str w0, D.int IntKind.i64 w1, D.int IntKind.i64 w2, D.int IntKind.i64 w3]) ∧ condW (!(ByteArray.toList w0 == ByteArray.toList { data := #[61] } && (w1 == 0 && (w2 == 2 && (w3 == 1 && true))))) (Q (some (IV.d (D.bool false), [IV.d (D.sl 4 z1 x2 e3)]))) ((∃ w4, evP F C J d39 [] [1, 1, 0, 1] [(0, IV.d (D.sl 4 z1 x2 e3)), (3, IV.d (D.int IntKind.i64 1))] = some (Out.ret [(2, IV.d (D.bool w4))]) ∧ Q (some (IV.d (D.bool w4), [IV.d (D.sl 4 z1 x2 e3)]))) ∨ ∃ w5 w6 w7 w8, evP F C J d39 [] [1, 1, 0, 1] [(0, IV.d (D.sl 4 z1 x2 e3)), (3, IV.d (D.int IntKind.i64 1))] = some (Out.norm [(0, IV.d (D.sl 4 w5 w6 w7)), (3, IV.d (D.int IntKind.i64 w8))]) ∧ Q (some (IV.d (D.bool true), [IV.d (D.sl 4 z1 x2 e3)])))))) := by kernel_rfl
theorem q39_l0a (C J) (z1 : Bool) (x2 : List D) (e3 : List D) (i4 : Int) (Q) : wpQ F C R (L39) J d39 [] [1,1,0,1,0,0] [(0, .d (.sl 4 z1 x2 e3)), (3, .d (.int .i64 i4))] Q = (condW (decide (i4 < (↑(List.length x2) : Int))) (condW (decide (0 ≤ i4)) (∃ w0 w1 w2 w3, x2[Int.toNat i4]? = some (D.agg [D.str w0, D.int IntKind.i64 w1, D.int IntKind.i64 w2, D.int IntKind.i64 w3]) ∧ ∃ w4 w5, C 58 [IV.d (D.agg [D.str w0, D.int IntKind.i64 w1, D.int IntKind.i64 w2, D.int IntKind.i64 w3])] = some (IV.d (D.bool w4), [IV.d w5]) ∧ condW w4 (condW (decide (0 ≤ i4)) (∃ w6 w7 w8 w9, x2[Int.toNat i4]? = some (D.agg [D.str w6, D.int IntKind.i64 w7, D.int IntKind.i64 w8, D.int IntKind.i64 w9]) ∧ ∃ w10 w11 w12, C 59 [IV.d (D.sl 4 z1 x2 e3), IV.d (D.str w6)] = some (IV.d (D.int IntKind.i64 w10), [IV.d w11, IV.d w12]) ∧ condW (w10 != i4) (Q (Out.ret [(2, IV.d (D.bool false))])) (Q (Out.norm [(0, IV.d (D.sl 4 z1 x2 e3)), (3, IV.d (D.int IntKind.i64 (IntKind.wrap IntKind.i64 (i4 + 1))))]))) False) (Q (Out.ret [(2, IV.d (D.bool false))]))) False) (Q (Out.exit 0 [(0, IV.d (D.sl 4 z1 x2 e3)), (3, IV.d (D.int IntKind.i64 i4))]))) := by kernel_rfl
theorem q61 (C J) (z1 : Bool) (x2 : List D) (e3 : List D) (z4 : Bool) (x5 : List D) (e6 : List D) (i7 : Int) (Q) : fnW F C R (L61) J d61 [.d (.sl 4 z1 x2 e3), .d (.sl 1 z4 x5 e6), .d (.int .i64 i7)] Q = ((∃ w0, evP F C J d61 [] [1, 1, 0] [(0, IV.d (D.sl 4 z1 x2 e3)), (1, IV.d (D.sl 1 z4 x5 e6)), (7, IV.d (D.int IntKind.i64 1)), (8, IV.d (D.int IntKind.i64 i7))] = some (Out.ret [(6, IV.d (D.int IntKind.i64 w0))]) ∧ Q (some (IV.d (D.int IntKind.i64 w0), [IV.d (D.sl 4 z1 x2 e3), IV.d (D.sl 1 z4 x5 e6), IV.d (D.int IntKind.i64 i7)]))) ∨ ∃ w1 w2 w3 w4 w5 w6 w7 w8, evP F C J d61 [] [1, 1, 0] [(0, IV.d (D.sl 4 z1 x2 e3)), (1, IV.d (D.sl 1 z4 x5 e6)), (7, IV.d (D.int IntKind.i64 1)), (8, IV.d (D.int IntKind.i64 i7))] = some (Out.norm [(0, IV.d (D.sl 4 w1 w2 w3)), (1, IV.d (D.sl 1 w4 w5 w6)), (7, IV.d (D.int IntKind.i64 w7)), (8, IV.d (D.int IntKind.i64 w8))]) ∧ Q (some (IV.d (D.int IntKind.i64 w8), [IV.d (D.sl 4 z1 x2 e3), IV.d (D.sl 1 z4 x5 e6), IV.d (D.int IntKind.i64 i7)]))) := by kernel_rfl
theorem q61_l0a (C J) (z1 : Bool) (x2 : List D) (e3 : List D) (z4 : Bool) (x5 : List D) (e6 : List D) (i7 : Int) (i8 : Int) (Q) : wpQ F C R (L61) J d61 [] [1,1,0,0,0] [(0, .d (.sl 4 z1 x2 e3)), (1, .d (.sl 1 z4 x5 e6)), (7, .d (.int .i64 i7)), (8, .d (.int .i64 i8))] Q = (condW (decide (i7 > 0)) (condW (decide (i8 ≥ (↑(List.length x5) : Int))) (Q (Out.ret [(6, IV.d (D.int IntKind.i64 (-1)))])) (condW (decide (0 ≤ i8)) (∃ w0, x5[Int.toNat i8]? = some (D.int IntKind.i64 w0) ∧ condW (decide (w0 < -24)) (Q (Out.ret [(6, IV.d (D.int IntKind.i64 (-1)))])) (condW (decide (0 ≤ i8)) (∃ w1, x5[Int.toNat i8]? = some (D.int IntKind.i64 w1) ∧ condW (decide (w1 ≥ (↑(List.length x2) : Int))) (Q (Out.ret [(6, IV.d (D.int IntKind.i64 (-1)))])) (condW (decide (0 ≤ i8)) (∃ w2, x5[Int.toNat i8]? = some (D.int IntKind.i64 w2) ∧ condW (decide (w2 ≥ 0)) (condW (decide (0 ≤ i8)) (∃ w3, x5[Int.toNat i8]? = some (D.int IntKind.i64 w3) ∧ condW (decide (0 ≤ w3)) (∃ w4 w5 w6 w7, x2[Int.toNat w3]? = some (D.agg [D.str w4, D.int IntKind.i64 w5, D.int IntKind.i64 w6, D.int IntKind.i64 w7]) ∧ condW (w5 == 0) (Q (Out.ret [(6, IV.d (D.int IntKind.i64 (-1)))])) (condW (decide (0 ≤ i8)) (∃ w8, x5[Int.toNat i8]? = some (D.int IntKind.i64 w8) ∧ condW (decide (0 ≤ w8)) (∃ w9 w10 w11 w12, x2[Int.toNat w8]? = some (D.agg [D.str w9, D.int IntKind.i64 w10, D.int IntKind.i64 w11, D.int IntKind.i64 w12]) ∧ Q (Out.norm [(0, IV.d (D.sl 4 z1 x2 e3)), (1, IV.d (D.sl 1 z4 x5 e6)), (7, IV.d (D.int IntKind.i64 (IntKind.wrap IntKind.i64 (IntKind.wrap IntKind.i64 (i7 - 1) + w11)))), (8, IV.d (D.int IntKind.i64 (IntKind.wrap IntKind.i64 (i8 + 1))))])) False) False)) False) False) (Q (Out.norm [(0, IV.d (D.sl 4 z1 x2 e3)), (1, IV.d (D.sl 1 z4 x5 e6)), (7, IV.d (D.int IntKind.i64 (IntKind.wrap IntKind.i64 (i7 - 1)))), (8, IV.d (D.int IntKind.i64 (IntKind.wrap IntKind.i64 (i8 + 1))))]))) False)) False)) False)) (Q (Out.exit 0 [(0, IV.d (D.sl 4 z1 x2 e3)), (1, IV.d (D.sl 1 z4 x5 e6)), (7, IV.d (D.int IntKind.i64 i7)), (8, IV.d (D.int IntKind.i64 i8))]))) := by kernel_rfl
theorem q41 (C J) (z1 : Bool) (x2 : List D) (e3 : List D) (z4 : Bool) (x5 : List D) (e6 : List D) (Q) : fnW F C R (L41) J d41 [.d (.sl 4 z1 x2 e3), .d (.sl 1 z4 x5 e6)] Q = (condW (decide ((↑(List.length x5) : Int) > 48)) (Q (some (IV.d (D.int IntKind.i64 (-1)), [IV.d (D.sl 4 z1 x2 e3), IV.d (D.sl 1 z4 x5 e6)]))) ((∃ w0, evP F C J d41 [] [1, 1, 1, 0] [(0, IV.d (D.sl 4 z1 x2 e3)), (1, IV.d (D.sl 1 z4 x5 e6)), (5, IV.d (D.int IntKind.i64 0)), (6, IV.d (D.int IntKind.i64 0))] = some (Out.ret [(4, IV.d (D.int IntKind.i64 w0))]) ∧ Q (some (IV.d (D.int IntKind.i64 w0), [IV.d (D.sl 4 z1 x2 e3), IV.d (D.sl 1 z4 x5 e6)]))) ∨ ∃ w1 w2 w3 w4 w5 w6 w7 w8, evP F C J d41 [] [1, 1, 1, 0] [(0, IV.d (D.sl 4 z1 x2 e3)), (1, IV.d (D.sl 1 z4 x5 e6)), (5, IV.d (D.int IntKind.i64 0)), (6, IV.d (D.int IntKind.i64 0))] = some (Out.norm [(0, IV.d (D.sl 4 w1 w2 w3)), (1, IV.d (D.sl 1 w4 w5 w6)), (5, IV.d (D.int IntKind.i64 w7)), (6, IV.d (D.int IntKind.i64 w8))]) ∧ Q (some (IV.d (D.int IntKind.i64 w7), [IV.d (D.sl 4 z1 x2 e3), IV.d (D.sl 1 z4 x5 e6)])))) := by kernel_rfl
theorem q41_l0a (C J) (z1 : Bool) (x2 : List D) (e3 : List D) (z4 : Bool) (x5 : List D) (e6 : List D) (i7 : Int) (i8 : Int) (Q) : wpQ F C R (L41) J d41 [] [1,1,1,0,0,0] [(0, .d (.sl 4 z1 x2 e3)), (1, .d (.sl 1 z4 x5 e6)), (5, .d (.int .i64 i7)), (6, .d (.int .i64 i8))] Q = (condW (decide (i8 < (↑(List.length x5) : Int))) (∃ w0 w1 w2 w3, C 61 [IV.d (D.sl 4 z1 x2 e3), IV.d (D.sl 1 z4 x5 e6), IV.d (D.int IntKind.i64 i8)] = some (IV.d (D.int IntKind.i64 w0), [IV.d w1, IV.d w2, IV.d w3]) ∧ condW (decide (w0 < 0)) (Q (Out.ret [(4, IV.d (D.int IntKind.i64 (-1)))])) (Q (Out.norm [(0, IV.d (D.sl 4 z1 x2 e3)), (1, IV.d (D.sl 1 z4 x5 e6)), (5, IV.d (D.int IntKind.i64 (IntKind.wrap IntKind.i64 (i7 + 1)))), (6, IV.d (D.int IntKind.i64 w0))]))) (Q (Out.exit 0 [(0, IV.d (D.sl 4 z1 x2 e3)), (1, IV.d (D.sl 1 z4 x5 e6)), (5, IV.d (D.int IntKind.i64 i7)), (6, IV.d (D.int IntKind.i64 i8))]))) := by kernel_rfl
theorem q60 (C J) (z1 : Bool) (x2 : List D) (e3 : List D) (z4 : Bool) (x5 : List D) (e6 : List D) (Q) : fnW F C R (L60) J d60 [.d (.sl 4 z1 x2 e3), .d (.sl 1 z4 x5 e6)] Q = (condW (decide ((↑(List.length x5) : Int) > 0)) (∃ w0, x5[0]? = some (D.int IntKind.i64 w0) ∧ condW (decide (w0 ≥ 0)) (∃ w1, x5[0]? = some (D.int IntKind.i64 w1) ∧ condW (decide (w1 < (↑(List.length x2) : Int))) (∃ w2, x5[0]? = some (D.int IntKind.i64 w2) ∧ condW (decide (0 ≤ w2)) (∃ w3 w4 w5 w6, x2[Int.toNat w2]? = some (D.agg [D.str w3, D.int IntKind.i64 w4, D.int IntKind.i64 w5, D.int IntKind.i64 w6]) ∧ condW (w4 == 0) (condW (decide (1 ≤ (↑(List.length x5) : Int))) (∃ w7 w8 w9, C 41 [IV.d (D.sl 4 z1 x2 e3), IV.d (D.sl 1 z4 (List.drop (Int.toNat 1) x5) [])] = some (IV.d (D.int IntKind.i64 w7), [IV.d w8, IV.d w9]) ∧ ∃ w10, x5[0]? = some (D.int IntKind.i64 w10) ∧ condW (decide (0 ≤ w10)) (∃ w11 w12 w13 w14, x2[Int.toNat w10]? = some (D.agg [D.str w11, D.int IntKind.i64 w12, D.int IntKind.i64 w13, D.int IntKind.i64 w14]) ∧ condW (w7 == w13) (Q (some (IV.d (D.bool true), [IV.d (D.sl 4 z1 x2 e3), IV.d (D.sl 1 z4 x5 e6)]))) (Q (some (IV.d (D.bool false), [IV.d (D.sl 4 z1 x2 e3), IV.d (D.sl 1 z4 x5 e6)])))) False) False) (Q (some (IV.d (D.bool false), [IV.d (D.sl 4 z1 x2 e3), IV.d (D.sl 1 z4 x5 e6)])))) False) (Q (some (IV.d (D.bool false), [IV.d (D.sl 4 z1 x2 e3), IV.d (D.sl 1 z4 x5 e6)])))) (Q (some (IV.d (D.bool false), [IV.d (D.sl 4 z1 x2 e3), IV.d (D.sl 1 z4 x5 e6)])))) (Q (some (IV.d (D.bool false), [IV.d (D.sl 4 z1 x2 e3), IV.d (D.sl 1 z4 x5 e6)])))) := by kernel_rfl
theorem q40 (C J) (z1 : Bool) (x2 : List D) (e3 : List D) (b4 : Bool) (z5 : Bool) (x6 : List D) (e7 : List D) (Q) : fnW F C R (L40) J d40 [.d (.sl 4 z1 x2 e3), .d (.agg [.bool b4, .sl 1 z5 x6 e7])] Q = (∃ w0 w1, C 39 [IV.d (D.sl 4 z1 x2 e3)] = some (IV.d (D.bool w0), [IV.d w1]) ∧ condW w0 (∃ w2 w3 w4, C 60 [IV.d (D.sl 4 z1 x2 e3), IV.d (D.sl 1 z5 x6 e7)] = some (IV.d (D.bool w2), [IV.d w3, IV.d w4]) ∧ condW w2 (Q (some (IV.d (D.bool true), [IV.d (D.sl 4 z1 x2 e3), IV.d (D.agg [D.bool b4, D.sl 1 z5 x6 e7])]))) (Q (some (IV.d (D.bool false), [IV.d (D.sl 4 z1 x2 e3), IV.d (D.agg [D.bool b4, D.sl 1 z5 x6 e7])])))) (Q (some (IV.d (D.bool false), [IV.d (D.sl 4 z1 x2 e3), IV.d (D.agg [D.bool b4, D.sl 1 z5 x6 e7])])))) := by kernel_rfl
theorem q42 (C J) (z1 : Bool) (x2 : List D) (e3 : List D) (z4 : Bool) (x5 : List D) (e6 : List D) (z7 : Bool) (x8 : List D) (e9 : List D) (Q) : fnW F C R (L42) J d42 [.d (.agg [.sl 2 z1 x2 e3, .sl 1 z4 x5 e6, .sl 2 z7 x8 e9])] Q = (∃ w0 w1 w2 w3 w4 w5 w6 w7 w8 w9 w10 w11, evP F C J d42 [] [1, 1, 0, 1] [(1, IV.dbox 26 0 [D.sl 2 z1 x2 e3, D.sl 1 z4 x5 e6, D.sl 2 z7 x8 e9]), (3, IV.own true 48 1 []), (4, IV.d (D.int IntKind.i64 0))] = some (Out.norm [(1, IV.dbox 26 0 [D.sl 2 w0 w1 w2, D.sl 1 w3 w4 w5, D.sl 2 w6 w7 w8]), (3, IV.own w9 48 1 w10), (4, IV.d (D.int IntKind.i64 w11))]) ∧ ∃ w12 w13 w14 w15 w16 w17 w18 w19 w20 w21 w22 w23, evP F C J d42 [] [1, 1, 1, 0, 1] [(1, IV.dbox 26 0 [D.sl 2 w0 w1 w2, D.sl 1 w3 w4 w5, D.sl 2 w6 w7 w8]), (3, IV.own w9 48 1 w10), (5, IV.d (D.int IntKind.i64 0))] = some (Out.norm [(1, IV.dbox 26 0 [D.sl 2 w12 w13 w14, D.sl 1 w15 w16 w17, D.sl 2 w18 w19 w20]), (3, IV.own w21 48 1 w22), (5, IV.d (D.int IntKind.i64 w23))]) ∧ ∃ w24 w25 w26 w27 w28 w29 w30 w31 w32 w33 w34 w35, evP F C J d42 [] [1, 1, 1, 1, 0, 1] [(1, IV.dbox 26 0 [D.sl 2 w12 w13 w14, D.sl 1 w15 w16 w17, D.sl 2 w18 w19 w20]), (3, IV.own w21 48 1 w22), (6, IV.d (D.int IntKind.i64 0))] = some (Out.norm [(1, IV.dbox 26 0 [D.sl 2 w24 w25 w26, D.sl 1 w27 w28 w29, D.sl 2 w30 w31 w32]), (3, IV.own w33 48 1 w34), (6, IV.d (D.int IntKind.i64 w35))]) ∧ Q (some (IV.own w33 48 1 w34, [IV.d (D.agg [D.sl 2 z1 x2 e3, D.sl 1 z4 x5 e6, D.sl 2 z7 x8 e9])]))) := by kernel_rfl
theorem q42_l0a (C J) (z1 : Bool) (x2 : List D) (e3 : List D) (z4 : Bool) (x5 : List D) (e6 : List D) (z7 : Bool) (x8 : List D) (e9 : List D) (z10 : Bool) (x11 : List D) (i12 : Int) (Q) : wpQ F C R (L42) J d42 [] [1,1,0,1,0,0] [(1, .dbox 26 0 [.sl 2 z1 x2 e3, .sl 1 z4 x5 e6, .sl 2 z7 x8 e9]), (3, .own z10 48 1 x11), (4, .d (.int .i64 i12))] Q = (condW (decide (i12 < (↑(List.length x2) : Int))) (condW (decide (0 ≤ i12)) (∃ w0 w1 w2 w3, x2[Int.toNat i12]? = some (D.agg [D.bool w0, D.sl 1 w1 w2 w3]) ∧ condW (decide (List.length x11 + (0 + 1) ≤ 9223372036854775807)) (condW (decide ((List.length x11 + (0 + 1)) * 24 ≤ 140737488355328)) (Q (Out.norm [(1, IV.dbox 26 0 [D.sl 2 z1 x2 e3, D.sl 1 z4 x5 e6, D.sl 2 z7 x8 e9]), (3, IV.own (z10 && false) 48 1 (x11 ++ [D.sl 1 w1 w2 w3])), (4, IV.d (D.int IntKind.i64 (IntKind.wrap IntKind.i64 (i12 + 1))))])) False) False) False) (Q (Out.exit 0 [(1, IV.dbox 26 0 [D.sl 2 z1 x2 e3, D.sl 1 z4 x5 e6, D.sl 2 z7 x8 e9]), (3, IV.own z10 48 1 x11), (4, IV.d (D.int IntKind.i64 i12))]))) := by kernel_rfl
theorem q42_l2b (C J) (z1 : Bool) (x2 : List D) (e3 : List D) (z4 : Bool) (x5 : List D) (e6 : List D) (z7 : Bool) (x8 : List D) (e9 : List D) (z10 : Bool) (x11 : List D) (i12 : Int) (Q) : wpQ F C R (L42) J d42 [] [1,1,1,0,1,0,0] [(1, .dbox 26 0 [.sl 2 z1 x2 e3, .sl 1 z4 x5 e6, .sl 2 z7 x8 e9]), (3, .own z10 48 1 x11), (5, .d (.int .i64 i12))] Q = (condW (decide (i12 < (↑(List.length x5) : Int))) (condW (decide (0 ≤ i12)) (∃ w0 w1 w2, x5[Int.toNat i12]? = some (D.sl 1 w0 w1 w2) ∧ condW (decide (List.length x11 + (0 + 1) ≤ 9223372036854775807)) (condW (decide ((List.length x11 + (0 + 1)) * 24 ≤ 140737488355328)) (Q (Out.norm [(1, IV.dbox 26 0 [D.sl 2 z1 x2 e3, D.sl 1 z4 x5 e6, D.sl 2 z7 x8 e9]), (3, IV.own (z10 && false) 48 1 (x11 ++ [D.sl 1 w0 w1 w2])), (5, IV.d (D.int IntKind.i64 (IntKind.wrap IntKind.i64 (i12 + 1))))])) False) False) False) (Q (Out.exit 2 [(1, IV.dbox 26 0 [D.sl 2 z1 x2 e3, D.sl 1 z4 x5 e6, D.sl 2 z7 x8 e9]), (3, IV.own z10 48 1 x11), (5, IV.d (D.int IntKind.i64 i12))]))) := by kernel_rfl
theorem q42_l4b (C J) (z1 : Bool) (x2 : List D) (e3 : List D) (z4 : Bool) (x5 : List D) (e6 : List D) (z7 : Bool) (x8 : List D) (e9 : List D) (z10 : Bool) (x11 : List D) (i12 : Int) (Q) : wpQ F C R (L42) J d42 [] [1,1,1,1,0,1,0,0] [(1, .dbox 26 0 [.sl 2 z1 x2 e3, .sl 1 z4 x5 e6, .sl 2 z7 x8 e9]), (3, .own z10 48 1 x11), (6, .d (.int .i64 i12))] Q = (condW (decide (i12 < (↑(List.length x8) : Int))) (condW (decide (0 ≤ i12)) (∃ w0 w1 w2 w3, x8[Int.toNat i12]? = some (D.agg [D.bool w0, D.sl 1 w1 w2 w3]) ∧ condW (decide (List.length x11 + (0 + 1) ≤ 9223372036854775807)) (condW (decide ((List.length x11 + (0 + 1)) * 24 ≤ 140737488355328)) (Q (Out.norm [(1, IV.dbox 26 0 [D.sl 2 z1 x2 e3, D.sl 1 z4 x5 e6, D.sl 2 z7 x8 e9]), (3, IV.own (z10 && false) 48 1 (x11 ++ [D.sl 1 w1 w2 w3])), (6, IV.d (D.int IntKind.i64 (IntKind.wrap IntKind.i64 (i12 + 1))))])) False) False) False) (Q (Out.exit 4 [(1, IV.dbox 26 0 [D.sl 2 z1 x2 e3, D.sl 1 z4 x5 e6, D.sl 2 z7 x8 e9]), (3, IV.own z10 48 1 x11), (6, IV.d (D.int IntKind.i64 i12))]))) := by kernel_rfl
theorem q21 (C J) (z1 : Bool) (x2 : List D) (e3 : List D) (z4 : Bool) (x5 : List D) (e6 : List D) (z7 : Bool) (x8 : List D) (e9 : List D) (z10 : Bool) (x11 : List D) (e12 : List D) (Q) : fnW F C R (L21) J d21 [.d (.sl 4 z1 x2 e3), .d (.agg [.sl 2 z4 x5 e6, .sl 1 z7 x8 e9, .sl 2 z10 x11 e12])] Q = (∃ w0 w1, C 39 [IV.d (D.sl 4 z1 x2 e3)] = some (IV.d (D.bool w0), [IV.d w1]) ∧ condW w0 (condW (decide ((↑(List.length x5) : Int) > 5)) (Q (some (IV.d (D.bool false), [IV.d (D.sl 4 z1 x2 e3), IV.d (D.agg [D.sl 2 z4 x5 e6, D.sl 1 z7 x8 e9, D.sl 2 z10 x11 e12])]))) (condW (decide ((↑(List.length x11) : Int) > 3)) (Q (some (IV.d (D.bool false), [IV.d (D.sl 4 z1 x2 e3), IV.d (D.agg [D.sl 2 z4 x5 e6, D.sl 1 z7 x8 e9, D.sl 2 z10 x11 e12])]))) (condW (decide ((↑(List.length x8) : Int) > 3)) (Q (some (IV.d (D.bool false), [IV.d (D.sl 4 z1 x2 e3), IV.d (D.agg [D.sl 2 z4 x5 e6, D.sl 1 z7 x8 e9, D.sl 2 z10 x11 e12])]))) ((∃ w2, evP F C J d21 [] [1, 1, 0, 1] [(0, IV.d (D.sl 4 z1 x2 e3)), (3, IV.dbox 26 0 [D.sl 2 z4 x5 e6, D.sl 1 z7 x8 e9, D.sl 2 z10 x11 e12]), (5, IV.d (D.int IntKind.i64 0))] = some (Out.ret [(4, IV.d (D.bool w2))]) ∧ Q (some (IV.d (D.bool w2), [IV.d (D.sl 4 z1 x2 e3), IV.d (D.agg [D.sl 2 z4 x5 e6, D.sl 1 z7 x8 e9, D.sl 2 z10 x11 e12])]))) ∨ ∃ w3 w4 w5 w6 w7 w8 w9 w10 w11 w12 w13 w14 w15, evP F C J d21 [] [1, 1, 0, 1] [(0, IV.d (D.sl 4 z1 x2 e3)), (3, IV.dbox 26 0 [D.sl 2 z4 x5 e6, D.sl 1 z7 x8 e9, D.sl 2 z10 x11 e12]), (5, IV.d (D.int IntKind.i64 0))] = some (Out.norm [(0, IV.d (D.sl 4 w3 w4 w5)), (3, IV.dbox 26 0 [D.sl 2 w6 w7 w8, D.sl 1 w9 w10 w11, D.sl 2 w12 w13 w14]), (5, IV.d (D.int IntKind.i64 w15))]) ∧ ((∃ w16, evP F C J d21 [] [1, 1, 1, 0, 1] [(0, IV.d (D.sl 4 w3 w4 w5)), (3, IV.dbox 26 0 [D.sl 2 w6 w7 w8, D.sl 1 w9 w10 w11, D.sl 2 w12 w13 w14]), (6, IV.d (D.int IntKind.i64 0))] = some (Out.ret [(4, IV.d (D.bool w16))]) ∧ Q (some (IV.d (D.bool w16), [IV.d (D.sl 4 z1 x2 e3), IV.d (D.agg [D.sl 2 z4 x5 e6, D.sl 1 z7 x8 e9, D.sl 2 z10 x11 e12])]))) ∨ ∃ w17 w18 w19 w20 w21 w22 w23 w24 w25 w26 w27 w28 w29, evP F C J d21 [] [1, 1, 1, 0, 1] [(0, IV.d (D.sl 4 w3 w4 w5)), (3, IV.dbox 26 0 [D.sl 2 w6 w7 w8, D.sl 1 w9 w10 w11, D.sl 2 w12 w13 w14]), (6, IV.d (D.int IntKind.i64 0))] = some (Out.norm [(0, IV.d (D.sl 4 w17 w18 w19)), (3, IV.dbox 26 0 [D.sl 2 w20 w21 w22, D.sl 1 w23 w24 w25, D.sl 2 w26 w27 w28]), (6, IV.d (D.int IntKind.i64 w29))]) ∧ ((∃ w30, evP F C J d21 [] [1, 1, 1, 1, 0, 1] [(0, IV.d (D.sl 4 w17 w18 w19)), (3, IV.dbox 26 0 [D.sl 2 w20 w21 w22, D.sl 1 w23 w24 w25, D.sl 2 w26 w27 w28]), (7, IV.d (D.int IntKind.i64 0))] = some (Out.ret [(4, IV.d (D.bool w30))]) ∧ Q (some (IV.d (D.bool w30), [IV.d (D.sl 4 z1 x2 e3), IV.d (D.agg [D.sl 2 z4 x5 e6, D.sl 1 z7 x8 e9, D.sl 2 z10 x11 e12])]))) ∨ ∃ w31 w32 w33 w34 w35 w36 w37 w38 w39 w40 w41 w42 w43, evP F C J d21 [] [1, 1, 1, 1, 0, 1] [(0, IV.d (D.sl 4 w17 w18 w19)), (3, IV.dbox 26 0 [D.sl 2 w20 w21 w22, D.sl 1 w23 w24 w25, D.sl 2 w26 w27 w28]), (7, IV.d (D.int IntKind.i64 0))] = some (Out.norm [(0, IV.d (D.sl 4 w31 w32 w33)), (3, IV.dbox 26 0 [D.sl 2 w34 w35 w36, D.sl 1 w37 w38 w39, D.sl 2 w40 w41 w42]), (7, IV.d (D.int IntKind.i64 w43))]) ∧ ∃ w44 w45 w46, C 42 [IV.d (D.agg [D.sl 2 w34 w35 w36, D.sl 1 w37 w38 w39, D.sl 2 w40 w41 w42])] = some (IV.own w44 48 1 w45, [IV.d w46]) ∧ ∃ w47 w48 w49 w50, evP F C J d21 [] [1, 1, 1, 1, 1, 1, 1, 0, 1] [(9, IV.own w44 48 1 w45), (10, IV.d (D.int IntKind.i64 0)), (11, IV.d (D.int IntKind.i64 0))] = some (Out.norm [(9, IV.own w47 48 1 w48), (10, IV.d (D.int IntKind.i64 w49)), (11, IV.d (D.int IntKind.i64 w50))]) ∧ condW (decide (w49 ≤ 240)) (Q (some (IV.d (D.bool true), [IV.d (D.sl 4 z1 x2 e3), IV.d (D.agg [D.sl 2 z4 x5 e6, D.sl 1 z7 x8 e9, D.sl 2 z10 x11 e12])]))) (Q (some (IV.d (D.bool false), [IV.d (D.sl 4 z1 x2 e3), IV.d (D.agg [D.sl 2 z4 x5 e6, D.sl 1 z7 x8 e9, D.sl 2 z10 x11 e12])]))))))))) (Q (some (IV.d (D.bool false), [IV.d (D.sl 4 z1 x2 e3), IV.d (D.agg [D.sl 2 z4 x5 e6, D.sl 1 z7 x8 e9, D.sl 2 z10 x11 e12])])))) := by kernel_rfl
theorem q21_l0a (C J) (z1 : Bool) (x2 : List D) (e3 : List D) (z4 : Bool) (x5 : List D) (e6 : List D) (z7 : Bool) (x8 : List D) (e9 : List D) (z10 : Bool) (x11 : List D) (e12 : List D) (i13 : Int) (Q) : wpQ F C R (L21) J d21 [] [1,1,0,1,0,0] [(0, .d (.sl 4 z1 x2 e3)), (3, .dbox 26 0 [.sl 2 z4 x5 e6, .sl 1 z7 x8 e9, .sl 2 z10 x11 e12]), (5, .d (.int .i64 i13))] Q = (condW (decide (i13 < (↑(List.length x5) : Int))) (condW (decide (0 ≤ i13)) (∃ w0 w1 w2 w3, x5[Int.toNat i13]? = some (D.agg [D.bool w0, D.sl 1 w1 w2 w3]) ∧ ∃ w4 w5 w6, C 40 [IV.d (D.sl 4 z1 x2 e3), IV.d (D.agg [D.bool w0, D.sl 1 w1 w2 w3])] = some (IV.d (D.bool w4), [IV.d w5, IV.d w6]) ∧ condW w4 (Q (Out.norm [(0, IV.d (D.sl 4 z1 x2 e3)), (3, IV.dbox 26 0 [D.sl 2 z4 x5 e6, D.sl 1 z7 x8 e9, D.sl 2 z10 x11 e12]), (5, IV.d (D.int IntKind.i64 (IntKind.wrap IntKind.i64 (i13 + 1))))])) (Q (Out.ret [(4, IV.d (D.bool false))]))) False) (Q (Out.exit 0 [(0, IV.d (D.sl 4 z1 x2 e3)), (3, IV.dbox 26 0 [D.sl 2 z4 x5 e6, D.sl 1 z7 x8 e9, D.sl 2 z10 x11 e12]), (5, IV.d (D.int IntKind.i64 i13))]))) := by kernel_rfl
theorem q21_l2b (C J) (z1 : Bool) (x2 : List D) (e3 : List D) (z4 : Bool) (x5 : List D) (e6 : List D) (z7 : Bool) (x8 : List D) (e9 : List D) (z10 : Bool) (x11 : List D) (e12 : List D) (i13 : Int) (Q) : wpQ F C R (L21) J d21 [] [1,1,1,0,1,0,0] [(0, .d (.sl 4 z1 x2 e3)), (3, .dbox 26 0 [.sl 2 z4 x5 e6, .sl 1 z7 x8 e9, .sl 2 z10 x11 e12]), (6, .d (.int .i64 i13))] Q = (condW (decide (i13 < (↑(List.length x11) : Int))) (condW (decide (0 ≤ i13)) (∃ w0 w1 w2 w3, x11[Int.toNat i13]? = some (D.agg [D.bool w0, D.sl 1 w1 w2 w3]) ∧ ∃ w4 w5 w6, C 40 [IV.d (D.sl 4 z1 x2 e3), IV.d (D.agg [D.bool w0, D.sl 1 w1 w2 w3])] = some (IV.d (D.bool w4), [IV.d w5, IV.d w6]) ∧ condW w4 (Q (Out.norm [(0, IV.d (D.sl 4 z1 x2 e3)), (3, IV.dbox 26 0 [D.sl 2 z4 x5 e6, D.sl 1 z7 x8 e9, D.sl 2 z10 x11 e12]), (6, IV.d (D.int IntKind.i64 (IntKind.wrap IntKind.i64 (i13 + 1))))])) (Q (Out.ret [(4, IV.d (D.bool false))]))) False) (Q (Out.exit 2 [(0, IV.d (D.sl 4 z1 x2 e3)), (3, IV.dbox 26 0 [D.sl 2 z4 x5 e6, D.sl 1 z7 x8 e9, D.sl 2 z10 x11 e12]), (6, IV.d (D.int IntKind.i64 i13))]))) := by kernel_rfl
theorem q21_l4b (C J) (z1 : Bool) (x2 : List D) (e3 : List D) (z4 : Bool) (x5 : List D) (e6 : List D) (z7 : Bool) (x8 : List D) (e9 : List D) (z10 : Bool) (x11 : List D) (e12 : List D) (i13 : Int) (Q) : wpQ F C R (L21) J d21 [] [1,1,1,1,0,1,0,0] [(0, .d (.sl 4 z1 x2 e3)), (3, .dbox 26 0 [.sl 2 z4 x5 e6, .sl 1 z7 x8 e9, .sl 2 z10 x11 e12]), (7, .d (.int .i64 i13))] Q = (condW (decide (i13 < (↑(List.length x8) : Int))) (condW (decide (0 ≤ i13)) (∃ w0 w1 w2, x8[Int.toNat i13]? = some (D.sl 1 w0 w1 w2) ∧ ∃ w3 w4 w5, C 41 [IV.d (D.sl 4 z1 x2 e3), IV.d (D.sl 1 w0 w1 w2)] = some (IV.d (D.int IntKind.i64 w3), [IV.d w4, IV.d w5]) ∧ condW (decide (w3 < 0)) (Q (Out.ret [(4, IV.d (D.bool false))])) (∃ w6 w7 w8, x8[0]? = some (D.sl 1 w6 w7 w8) ∧ ∃ w9 w10 w11, C 41 [IV.d (D.sl 4 z1 x2 e3), IV.d (D.sl 1 w6 w7 w8)] = some (IV.d (D.int IntKind.i64 w9), [IV.d w10, IV.d w11]) ∧ condW (w3 != w9) (Q (Out.ret [(4, IV.d (D.bool false))])) (Q (Out.norm [(0, IV.d (D.sl 4 z1 x2 e3)), (3, IV.dbox 26 0 [D.sl 2 z4 x5 e6, D.sl 1 z7 x8 e9, D.sl 2 z10 x11 e12]), (7, IV.d (D.int IntKind.i64 (IntKind.wrap IntKind.i64 (i13 + 1))))])))) False) (Q (Out.exit 4 [(0, IV.d (D.sl 4 z1 x2 e3)), (3, IV.dbox 26 0 [D.sl 2 z4 x5 e6, D.sl 1 z7 x8 e9, D.sl 2 z10 x11 e12]), (7, IV.d (D.int IntKind.i64 i13))]))) := by kernel_rfl
theorem q21_l6a (C J) (z1 : Bool) (x2 : List D) (i3 : Int) (i4 : Int) (Q) : wpQ F C R (L21) J d21 [] [1,1,1,1,1,1,1,0,1,0,0] [(9, .own z1 48 1 x2), (10, .d (.int .i64 i3)), (11, .d (.int .i64 i4))] Q = (condW (decide (i4 < (↑(List.length x2) : Int))) (condW (decide (0 ≤ i4)) (∃ w0, x2[Int.toNat i4]? = some w0 ∧ ∃ w1 w2 w3, x2[Int.toNat i4]? = some (D.sl 1 w1 w2 w3) ∧ Q (Out.norm [(9, IV.own z1 48 1 x2), (10, IV.d (D.int IntKind.i64 (IntKind.wrap IntKind.i64 (i3 + (↑(List.length w2) : Int))))), (11, IV.d (D.int IntKind.i64 (IntKind.wrap IntKind.i64 (i4 + 1))))])) False) (Q (Out.exit 6 [(9, IV.own z1 48 1 x2), (10, IV.d (D.int IntKind.i64 i3)), (11, IV.d (D.int IntKind.i64 i4))]))) := by kernel_rfl
theorem q8 (C J) (z1 : Bool) (x2 : List D) (e3 : List D) (i4 : Int) (i5 : Int) (i6 : Int) (i7 : Int) (i8 : Int) (i9 : Int) (i10 : Int) (z11 : Bool) (x12 : List D) (e13 : List D) (z14 : Bool) (x15 : List D) (e16 : List D) (z17 : Bool) (x18 : List D) (e19 : List D) (Q) : fnW F C R (L8) J d8 [.d (.sl 4 z1 x2 e3), .d (.agg [.int .i64 i4, .int .i64 i5, .int .i64 i6, .int .i64 i7, .int .i64 i8, .int .i64 i9, .int .i64 i10, .sl 2 z11 x12 e13, .sl 1 z14 x15 e16, .sl 2 z17 x18 e19])] Q = (condW (decide (i4 < 0)) (Q (some (IV.d (D.bool false), [IV.d (D.sl 4 z1 x2 e3), IV.d (D.agg [D.int IntKind.i64 i4, D.int IntKind.i64 i5, D.int IntKind.i64 i6, D.int IntKind.i64 i7, D.int IntKind.i64 i8, D.int IntKind.i64 i9, D.int IntKind.i64 i10, D.sl 2 z11 x12 e13, D.sl 1 z14 x15 e16, D.sl 2 z17 x18 e19])]))) (condW (decide (i4 > 7)) (Q (some (IV.d (D.bool false), [IV.d (D.sl 4 z1 x2 e3), IV.d (D.agg [D.int IntKind.i64 i4, D.int IntKind.i64 i5, D.int IntKind.i64 i6, D.int IntKind.i64 i7, D.int IntKind.i64 i8, D.int IntKind.i64 i9, D.int IntKind.i64 i10, D.sl 2 z11 x12 e13, D.sl 1 z14 x15 e16, D.sl 2 z17 x18 e19])]))) (condW (decide (i5 < -1)) (Q (some (IV.d (D.bool false), [IV.d (D.sl 4 z1 x2 e3), IV.d (D.agg [D.int IntKind.i64 i4, D.int IntKind.i64 i5, D.int IntKind.i64 i6, D.int IntKind.i64 i7, D.int IntKind.i64 i8, D.int IntKind.i64 i9, D.int IntKind.i64 i10, D.sl 2 z11 x12 e13, D.sl 1 z14 x15 e16, D.sl 2 z17 x18 e19])]))) (condW (decide (i5 ≥ 200)) (Q (some (IV.d (D.bool false), [IV.d (D.sl 4 z1 x2 e3), IV.d (D.agg [D.int IntKind.i64 i4, D.int IntKind.i64 i5, D.int IntKind.i64 i6, D.int IntKind.i64 i7, D.int IntKind.i64 i8, D.int IntKind.i64 i9, D.int IntKind.i64 i10, D.sl 2 z11 x12 e13, D.sl 1 z14 x15 e16, D.sl 2 z17 x18 e19])]))) (condW (decide (i8 < -1)) (Q (some (IV.d (D.bool false), [IV.d (D.sl 4 z1 x2 e3), IV.d (D.agg [D.int IntKind.i64 i4, D.int IntKind.i64 i5, D.int IntKind.i64 i6, D.int IntKind.i64 i7, D.int IntKind.i64 i8, D.int IntKind.i64 i9, D.int IntKind.i64 i10, D.sl 2 z11 x12 e13, D.sl 1 z14 x15 e16, D.sl 2 z17 x18 e19])]))) (condW (decide (i8 ≥ 200)) (Q (some (IV.d (D.bool false), [IV.d (D.sl 4 z1 x2 e3), IV.d (D.agg [D.int IntKind.i64 i4, D.int IntKind.i64 i5, D.int IntKind.i64 i6, D.int IntKind.i64 i7, D.int IntKind.i64 i8, D.int IntKind.i64 i9, D.int IntKind.i64 i10, D.sl 2 z11 x12 e13, D.sl 1 z14 x15 e16, D.sl 2 z17 x18 e19])]))) (condW (decide (i6 < 0)) (Q (some (IV.d (D.bool false), [IV.d (D.sl 4 z1 x2 e3), IV.d (D.agg [D.int IntKind.i64 i4, D.int IntKind.i64 i5, D.int IntKind.i64 i6, D.int IntKind.i64 i7, D.int IntKind.i64 i8, D.int IntKind.i64 i9, D.int IntKind.i64 i10, D.sl 2 z11 x12 e13, D.sl 1 z14 x15 e16, D.sl 2 z17 x18 e19])]))) (condW (decide (i6 ≥ 5)) (Q (some (IV.d (D.bool false), [IV.d (D.sl 4 z1 x2 e3), IV.d (D.agg [D.int IntKind.i64 i4, D.int IntKind.i64 i5, D.int IntKind.i64 i6, D.int IntKind.i64 i7, D.int IntKind.i64 i8, D.int IntKind.i64 i9, D.int IntKind.i64 i10, D.sl 2 z11 x12 e13, D.sl 1 z14 x15 e16, D.sl 2 z17 x18 e19])]))) (condW (decide (i9 < 0)) (Q (some (IV.d (D.bool false), [IV.d (D.sl 4 z1 x2 e3), IV.d (D.agg [D.int IntKind.i64 i4, D.int IntKind.i64 i5, D.int IntKind.i64 i6, D.int IntKind.i64 i7, D.int IntKind.i64 i8, D.int IntKind.i64 i9, D.int IntKind.i64 i10, D.sl 2 z11 x12 e13, D.sl 1 z14 x15 e16, D.sl 2 z17 x18 e19])]))) (condW (decide (i9 ≥ 5)) (Q (some (IV.d (D.bool false), [IV.d (D.sl 4 z1 x2 e3), IV.d (D.agg [D.int IntKind.i64 i4, D.int IntKind.i64 i5, D.int IntKind.i64 i6, D.int IntKind.i64 i7, D.int IntKind.i64 i8, D.int IntKind.i64 i9, D.int IntKind.i64 i10, D.sl 2 z11 x12 e13, D.sl 1 z14 x15 e16, D.sl 2 z17 x18 e19])]))) (condW (decide (i7 < 0)) (Q (some (IV.d (D.bool false), [IV.d (D.sl 4 z1 x2 e3), IV.d (D.agg [D.int IntKind.i64 i4, D.int IntKind.i64 i5, D.int IntKind.i64 i6, D.int IntKind.i64 i7, D.int IntKind.i64 i8, D.int IntKind.i64 i9, D.int IntKind.i64 i10, D.sl 2 z11 x12 e13, D.sl 1 z14 x15 e16, D.sl 2 z17 x18 e19])]))) (condW (decide (i7 > 1)) (Q (some (IV.d (D.bool false), [IV.d (D.sl 4 z1 x2 e3), IV.d (D.agg [D.int IntKind.i64 i4, D.int IntKind.i64 i5, D.int IntKind.i64 i6, D.int IntKind.i64 i7, D.int IntKind.i64 i8, D.int IntKind.i64 i9, D.int IntKind.i64 i10, D.sl 2 z11 x12 e13, D.sl 1 z14 x15 e16, D.sl 2 z17 x18 e19])]))) (condW (decide (i10 < 0)) (Q (some (IV.d (D.bool false), [IV.d (D.sl 4 z1 x2 e3), IV.d (D.agg [D.int IntKind.i64 i4, D.int IntKind.i64 i5, D.int IntKind.i64 i6, D.int IntKind.i64 i7, D.int IntKind.i64 i8, D.int IntKind.i64 i9, D.int IntKind.i64 i10, D.sl 2 z11 x12 e13, D.sl 1 z14 x15 e16, D.sl 2 z17 x18 e19])]))) (condW (decide (i10 > 48)) (Q (some (IV.d (D.bool false), [IV.d (D.sl 4 z1 x2 e3), IV.d (D.agg [D.int IntKind.i64 i4, D.int IntKind.i64 i5, D.int IntKind.i64 i6, D.int IntKind.i64 i7, D.int IntKind.i64 i8, D.int IntKind.i64 i9, D.int IntKind.i64 i10, D.sl 2 z11 x12 e13, D.sl 1 z14 x15 e16, D.sl 2 z17 x18 e19])]))) (∃ w0 w1 w2, C 21 [IV.d (D.sl 4 z1 x2 e3), IV.d (D.agg [D.sl 2 z11 x12 e13, D.sl 1 z14 x15 e16, D.sl 2 z17 x18 e19])] = some (IV.d (D.bool w0), [IV.d w1, IV.d w2]) ∧ condW w0 (Q (some (IV.d (D.bool true), [IV.d (D.sl 4 z1 x2 e3), IV.d (D.agg [D.int IntKind.i64 i4, D.int IntKind.i64 i5, D.int IntKind.i64 i6, D.int IntKind.i64 i7, D.int IntKind.i64 i8, D.int IntKind.i64 i9, D.int IntKind.i64 i10, D.sl 2 z11 x12 e13, D.sl 1 z14 x15 e16, D.sl 2 z17 x18 e19])]))) (Q (some (IV.d (D.bool false), [IV.d (D.sl 4 z1 x2 e3), IV.d (D.agg [D.int IntKind.i64 i4, D.int IntKind.i64 i5, D.int IntKind.i64 i6, D.int IntKind.i64 i7, D.int IntKind.i64 i8, D.int IntKind.i64 i9, D.int IntKind.i64 i10, D.sl 2 z11 x12 e13, D.sl 1 z14 x15 e16, D.sl 2 z17 x18 e19])])))))))))))))))))) := by kernel_rfl
theorem q19 (C J) (z1 : Bool) (x2 : List D) (z3 : Bool) (x4 : List D) (e5 : List D) (Q) : fnW F C R (L19) J d19 [.own z1 3 1 x2, .d (.sl 1 z3 x4 e5)] Q = (condW (decide (List.length x2 + (0 + 1) ≤ 9223372036854775807)) (condW (decide ((List.length x2 + (0 + 1)) * 8 ≤ 140737488355328)) (condW (decide (List.length (x2 ++ [D.int IntKind.i64 (↑(List.length x4) : Int)]) + List.length x4 ≤ 9223372036854775807)) (condW (decide ((List.length (x2 ++ [D.int IntKind.i64 (↑(List.length x4) : Int)]) + List.length x4) * 8 ≤ 140737488355328)) (Q (some (IV.own (z1 && false && List.isEmpty x4) 3 1 (x2 ++ [D.int IntKind.i64 (↑(List.length x4) : Int)] ++ x4), [IV.dead, IV.d (D.sl 1 z3 x4 e5)]))) False) False) False) False) := by kernel_rfl
theorem q18 (C J) (z1 : Bool) (x2 : List D) (z3 : Bool) (x4 : List D) (e5 : List D) (Q) : fnW F C R (L18) J d18 [.own z1 3 1 x2, .d (.sl 2 z3 x4 e5)] Q = (condW (decide (List.length x2 + (0 + 1) ≤ 9223372036854775807)) (condW (decide ((List.length x2 + (0 + 1)) * 8 ≤ 140737488355328)) (∃ w0 w1 w2 w3 w4 w5, evP F C J d18 [] [1, 1, 0, 1] [(0, IV.own (z1 && false) 3 1 (x2 ++ [D.int IntKind.i64 (↑(List.length x4) : Int)])), (1, IV.d (D.sl 2 z3 x4 e5)), (5, IV.d (D.int IntKind.i64 0))] = some (Out.norm [(0, IV.own w0 3 1 w1), (1, IV.d (D.sl 2 w2 w3 w4)), (5, IV.d (D.int IntKind.i64 w5))]) ∧ Q (some (IV.own w0 3 1 w1, [IV.dead, IV.d (D.sl 2 z3 x4 e5)]))) False) False) := by kernel_rfl
theorem q18_l0a (C J) (z1 : Bool) (x2 : List D) (z3 : Bool) (x4 : List D) (e5 : List D) (i6 : Int) (Q) : wpQ F C R (L18) J d18 [] [1,1,0,1,0,0] [(0, .own z1 3 1 x2), (1, .d (.sl 2 z3 x4 e5)), (5, .d (.int .i64 i6))] Q = (condW (decide (i6 < (↑(List.length x4) : Int))) (condW (decide (0 ≤ i6)) (∃ w0 w1 w2 w3, x4[Int.toNat i6]? = some (D.agg [D.bool w0, D.sl 1 w1 w2 w3]) ∧ condW w0 (condW (decide (List.length x2 + (0 + 1) ≤ 9223372036854775807)) (condW (decide ((List.length x2 + (0 + 1)) * 8 ≤ 140737488355328)) (condW (decide (0 ≤ i6)) (∃ w4 w5 w6 w7, x4[Int.toNat i6]? = some (D.agg [D.bool w4, D.sl 1 w5 w6 w7]) ∧ ∃ w8 w9 w10, C 19 [IV.own (z1 && false) 3 1 (x2 ++ [D.int IntKind.i64 1]), IV.d (D.sl 1 w5 w6 w7)] = some (IV.own w8 3 1 w9, [IV.dead, IV.d w10]) ∧ Q (Out.norm [(0, IV.own w8 3 1 w9), (1, IV.d (D.sl 2 z3 x4 e5)), (5, IV.d (D.int IntKind.i64 (IntKind.wrap IntKind.i64 (i6 + 1))))])) False) False) False) (condW (decide (List.length x2 + (0 + 1) ≤ 9223372036854775807)) (condW (decide ((List.length x2 + (0 + 1)) * 8 ≤ 140737488355328)) (condW (decide (0 ≤ i6)) (∃ w11 w12 w13 w14, x4[Int.toNat i6]? = some (D.agg [D.bool w11, D.sl 1 w12 w13 w14]) ∧ ∃ w15 w16 w17, C 19 [IV.own (z1 && false) 3 1 (x2 ++ [D.int IntKind.i64 0]), IV.d (D.sl 1 w12 w13 w14)] = some (IV.own w15 3 1 w16, [IV.dead, IV.d w17]) ∧ Q (Out.norm [(0, IV.own w15 3 1 w16), (1, IV.d (D.sl 2 z3 x4 e5)), (5, IV.d (D.int IntKind.i64 (IntKind.wrap IntKind.i64 (i6 + 1))))])) False) False) False)) False) (Q (Out.exit 0 [(0, IV.own z1 3 1 x2), (1, IV.d (D.sl 2 z3 x4 e5)), (5, IV.d (D.int IntKind.i64 i6))]))) := by kernel_rfl
theorem q20 (C J) (i1 : Int) (Q) : fnW F C R (L20) J d20 [.d (.int .i64 i1)] Q = (condW (decide (i1 < 0)) (∃ w0 w1, C 20 [IV.d (D.int IntKind.i64 (IntKind.wrap IntKind.i64 (0 - i1)))] = some (IV.d (D.str w0), [IV.d w1]) ∧ condW (decide (ByteArray.size { data := #[45] } + ByteArray.size w0 ≤ 9223372036854775807)) (Q (some (IV.d (D.str ({ data := #[45] } ++ w0)), [IV.d (D.int IntKind.i64 i1)]))) False) (condW (decide (i1 < 10)) (Q (some (IV.d (D.str (strOfNums [IntKind.wrap IntKind.u8 (IntKind.wrap IntKind.i64 (48 + i1))])), [IV.d (D.int IntKind.i64 i1)]))) (∃ w2 w3, C 20 [IV.d (D.int IntKind.i64 (IntKind.wrap IntKind.i64 (Int.tdiv i1 10)))] = some (IV.d (D.str w2), [IV.d w3]) ∧ condW (decide (ByteArray.size w2 + ByteArray.size (strOfNums [IntKind.wrap IntKind.u8 (IntKind.wrap IntKind.i64 (48 + Int.tmod i1 10))]) ≤ 9223372036854775807)) (Q (some (IV.d (D.str (w2 ++ strOfNums [IntKind.wrap IntKind.u8 (IntKind.wrap IntKind.i64 (48 + Int.tmod i1 10))])), [IV.d (D.int IntKind.i64 i1)]))) False))) := by kernel_rfl
theorem q7 (C J) (z1 : Bool) (x2 : List D) (e3 : List D) (i4 : Int) (i5 : Int) (i6 : Int) (i7 : Int) (i8 : Int) (i9 : Int) (i10 : Int) (z11 : Bool) (x12 : List D) (e13 : List D) (z14 : Bool) (x15 : List D) (e16 : List D) (z17 : Bool) (x18 : List D) (e19 : List D) (Q) : fnW F C R (L7) J d7 [.d (.sl 4 z1 x2 e3), .d (.agg [.int .i64 i4, .int .i64 i5, .int .i64 i6, .int .i64 i7, .int .i64 i8, .int .i64 i9, .int .i64 i10, .sl 2 z11 x12 e13, .sl 1 z14 x15 e16, .sl 2 z17 x18 e19])] Q = (∃ w0 w1 w2, C 8 [IV.d (D.sl 4 z1 x2 e3), IV.d (D.agg [D.int IntKind.i64 i4, D.int IntKind.i64 i5, D.int IntKind.i64 i6, D.int IntKind.i64 i7, D.int IntKind.i64 i8, D.int IntKind.i64 i9, D.int IntKind.i64 i10, D.sl 2 z11 x12 e13, D.sl 1 z14 x15 e16, D.sl 2 z17 x18 e19])] = some (IV.d (D.bool w0), [IV.d w1, IV.d w2]) ∧ condW w0 (∃ w3 w4 w5, C 18 [IV.own false 3 1 [D.int IntKind.i64 i4, D.int IntKind.i64 i5, D.int IntKind.i64 i6, D.int IntKind.i64 i7, D.int IntKind.i64 i8, D.int IntKind.i64 i9, D.int IntKind.i64 i10], IV.d (D.sl 2 z11 x12 e13)] = some (IV.own w3 3 1 w4, [IV.dead, IV.d w5]) ∧ condW (decide (List.length w4 + (0 + 1) ≤ 9223372036854775807)) (condW (decide ((List.length w4 + (0 + 1)) * 8 ≤ 140737488355328)) (∃ w6 w7 w8 w9 w10 w11 w12 w13 w14 w15 w16 w17 w18 w19 w20 w21 w22 w23 w24, evP F C J d7 [] [1, 1, 1, 1, 1, 0, 1] [(3, IV.dbox 28 0 [D.int IntKind.i64 i4, D.int IntKind.i64 i5, D.int IntKind.i64 i6, D.int IntKind.i64 i7, D.int IntKind.i64 i8, D.int IntKind.i64 i9, D.int IntKind.i64 i10, D.sl 2 z11 x12 e13, D.sl 1 z14 x15 e16, D.sl 2 z17 x18 e19]), (6, IV.own (w3 && false) 3 1 (w4 ++ [D.int IntKind.i64 (↑(List.length x15) : Int)])), (7, IV.d (D.int IntKind.i64 0))] = some (Out.norm [(3, IV.dbox 28 0 [D.int IntKind.i64 w6, D.int IntKind.i64 w7, D.int IntKind.i64 w8, D.int IntKind.i64 w9, D.int IntKind.i64 w10, D.int IntKind.i64 w11, D.int IntKind.i64 w12, D.sl 2 w13 w14 w15, D.sl 1 w16 w17 w18, D.sl 2 w19 w20 w21]), (6, IV.own w22 3 1 w23), (7, IV.d (D.int IntKind.i64 w24))]) ∧ ∃ w25 w26 w27, C 18 [IV.own w22 3 1 w23, IV.d (D.sl 2 w19 w20 w21)] = some (IV.own w25 3 1 w26, [IV.dead, IV.d w27]) ∧ ∃ w28 w29 w30 w31, evP F C J d7 [] [1, 1, 1, 1, 1, 1, 1, 1, 0, 1] [(6, IV.own w25 3 1 w26), (8, IV.d (D.str { data := #[] })), (9, IV.d (D.int IntKind.i64 0))] = some (Out.norm [(6, IV.own w28 3 1 w29), (8, IV.d (D.str w30)), (9, IV.d (D.int IntKind.i64 w31))]) ∧ Q (some (IV.tup [IV.d (D.str w30), IV.d (D.int IntKind.i64 0)], [IV.d (D.sl 4 z1 x2 e3), IV.d (D.agg [D.int IntKind.i64 i4, D.int IntKind.i64 i5, D.int IntKind.i64 i6, D.int IntKind.i64 i7, D.int IntKind.i64 i8, D.int IntKind.i64 i9, D.int IntKind.i64 i10, D.sl 2 z11 x12 e13, D.sl 1 z14 x15 e16, D.sl 2 z17 x18 e19])]))) False) False) (Q (some (IV.tup [IV.d (D.str { data := #[] }), IV.d (D.int IntKind.i64 1700)], [IV.d (D.sl 4 z1 x2 e3), IV.d (D.agg [D.int IntKind.i64 i4, D.int IntKind.i64 i5, D.int IntKind.i64 i6, D.int IntKind.i64 i7, D.int IntKind.i64 i8, D.int IntKind.i64 i9, D.int IntKind.i64 i10, D.sl 2 z11 x12 e13, D.sl 1 z14 x15 e16, D.sl 2 z17 x18 e19])])))) := by kernel_rfl
theorem q7_l0a (C J) (i1 : Int) (i2 : Int) (i3 : Int) (i4 : Int) (i5 : Int) (i6 : Int) (i7 : Int) (z8 : Bool) (x9 : List D) (e10 : List D) (z11 : Bool) (x12 : List D) (e13 : List D) (z14 : Bool) (x15 : List D) (e16 : List D) (z17 : Bool) (x18 : List D) (i19 : Int) (Q) : wpQ F C R (L7) J d7 [] [1,1,1,1,1,0,1,0,0] [(3, .dbox 28 0 [.int .i64 i1, .int .i64 i2, .int .i64 i3, .int .i64 i4, .int .i64 i5, .int .i64 i6, .int .i64 i7, .sl 2 z8 x9 e10, .sl 1 z11 x12 e13, .sl 2 z14 x15 e16]), (6, .own z17 3 1 x18), (7, .d (.int .i64 i19))] Q = (condW (decide (i19 < (↑(List.length x12) : Int))) (condW (decide (0 ≤ i19)) (∃ w0 w1 w2, x12[Int.toNat i19]? = some (D.sl 1 w0 w1 w2) ∧ ∃ w3 w4 w5, C 19 [IV.own z17 3 1 x18, IV.d (D.sl 1 w0 w1 w2)] = some (IV.own w3 3 1 w4, [IV.dead, IV.d w5]) ∧ Q (Out.norm [(3, IV.dbox 28 0 [D.int IntKind.i64 i1, D.int IntKind.i64 i2, D.int IntKind.i64 i3, D.int IntKind.i64 i4, D.int IntKind.i64 i5, D.int IntKind.i64 i6, D.int IntKind.i64 i7, D.sl 2 z8 x9 e10, D.sl 1 z11 x12 e13, D.sl 2 z14 x15 e16]), (6, IV.own w3 3 1 w4), (7, IV.d (D.int IntKind.i64 (IntKind.wrap IntKind.i64 (i19 + 1))))])) False) (Q (Out.exit 0 [(3, IV.dbox 28 0 [D.int IntKind.i64 i1, D.int IntKind.i64 i2, D.int IntKind.i64 i3, D.int IntKind.i64 i4, D.int IntKind.i64 i5, D.int IntKind.i64 i6, D.int IntKind.i64 i7, D.sl 2 z8 x9 e10, D.sl 1 z11 x12 e13, D.sl 2 z14 x15 e16]), (6, IV.own z17 3 1 x18), (7, IV.d (D.int IntKind.i64 i19))]))) := by kernel_rfl
theorem q7_l2a (C J) (z1 : Bool) (x2 : List D) (s3 : ByteArray) (i4 : Int) (Q) : wpQ F C R (L7) J d7 [] [1,1,1,1,1,1,1,1,0,1,0,0] [(6, .own z1 3 1 x2), (8, .d (.str s3)), (9, .d (.int .i64 i4))] Q = (condW (decide (i4 < (↑(List.length x2) : Int))) (condW (decide (i4 > 0)) (condW (decide (ByteArray.size s3 + ByteArray.size { data := #[32] } ≤ 9223372036854775807)) (condW (decide (0 ≤ i4)) (∃ w0, x2[Int.toNat i4]? = some w0 ∧ ∃ w1, x2[Int.toNat i4]? = some (D.int IntKind.i64 w1) ∧ ∃ w2 w3, C 20 [IV.d (D.int IntKind.i64 w1)] = some (IV.d (D.str w2), [IV.d w3]) ∧ condW (decide (ByteArray.size (s3 ++ { data := #[32] }) + ByteArray.size w2 ≤ 9223372036854775807)) (Q (Out.norm [(6, IV.own z1 3 1 x2), (8, IV.d (D.str (s3 ++ { data := #[32] } ++ w2))), (9, IV.d (D.int IntKind.i64 (IntKind.wrap IntKind.i64 (i4 + 1))))])) False) False) False) (condW (decide (0 ≤ i4)) (∃ w4, x2[Int.toNat i4]? = some w4 ∧ ∃ w5, x2[Int.toNat i4]? = some (D.int IntKind.i64 w5) ∧ ∃ w6 w7, C 20 [IV.d (D.int IntKind.i64 w5)] = some (IV.d (D.str w6), [IV.d w7]) ∧ condW (decide (ByteArray.size s3 + ByteArray.size w6 ≤ 9223372036854775807)) (Q (Out.norm [(6, IV.own z1 3 1 x2), (8, IV.d (D.str (s3 ++ w6))), (9, IV.d (D.int IntKind.i64 (IntKind.wrap IntKind.i64 (i4 + 1))))])) False) False)) (Q (Out.exit 2 [(6, IV.own z1 3 1 x2), (8, IV.d (D.str s3)), (9, IV.d (D.int IntKind.i64 i4))]))) := by kernel_rfl
theorem q10 (C J) (i1 : Int) (Q) : fnW F C R (L10) J d10 [.d (.int .i64 i1)] Q = (Q (some (IV.d (D.int IntKind.i64 i1), [IV.d (D.int IntKind.i64 i1)]))) := by kernel_rfl
theorem q71 (C J) (z1 : Bool) (x2 : List D) (e3 : List D) (z4 : Bool) (x5 : List D) (e6 : List D) (Q) : fnW F C R (L71) J d71 [.d (.sl 1 z1 x2 e3), .d (.sl 1 z4 x5 e6)] Q = (condW ((↑(List.length x2) : Int) != (↑(List.length x5) : Int)) (Q (some (IV.d (D.bool false), [IV.d (D.sl 1 z1 x2 e3), IV.d (D.sl 1 z4 x5 e6)]))) ((∃ w0, evP F C J d71 [] [1, 1, 0, 1] [(0, IV.d (D.sl 1 z1 x2 e3)), (1, IV.d (D.sl 1 z4 x5 e6)), (5, IV.d (D.int IntKind.i64 0))] = some (Out.ret [(4, IV.d (D.bool w0))]) ∧ Q (some (IV.d (D.bool w0), [IV.d (D.sl 1 z1 x2 e3), IV.d (D.sl 1 z4 x5 e6)]))) ∨ ∃ w1 w2 w3 w4 w5 w6 w7, evP F C J d71 [] [1, 1, 0, 1] [(0, IV.d (D.sl 1 z1 x2 e3)), (1, IV.d (D.sl 1 z4 x5 e6)), (5, IV.d (D.int IntKind.i64 0))] = some (Out.norm [(0, IV.d (D.sl 1 w1 w2 w3)), (1, IV.d (D.sl 1 w4 w5 w6)), (5, IV.d (D.int IntKind.i64 w7))]) ∧ Q (some (IV.d (D.bool true), [IV.d (D.sl 1 z1 x2 e3), IV.d (D.sl 1 z4 x5 e6)])))) := by kernel_rfl
theorem q71_l0a (C J) (z1 : Bool) (x2 : List D) (e3 : List D) (z4 : Bool) (x5 : List D) (e6 : List D) (i7 : Int) (Q) : wpQ F C R (L71) J d71 [] [1,1,0,1,0,0] [(0, .d (.sl 1 z1 x2 e3)), (1, .d (.sl 1 z4 x5 e6)), (5, .d (.int .i64 i7))] Q = (condW (decide (i7 < (↑(List.length x2) : Int))) (condW (decide (0 ≤ i7)) (∃ w0, x2[Int.toNat i7]? = some (D.int IntKind.i64 w0) ∧ condW (decide (0 ≤ i7)) (∃ w1, x5[Int.toNat i7]? = some (D.int IntKind.i64 w1) ∧ condW (w0 != w1) (Q (Out.ret [(4, IV.d (D.bool false))])) (Q (Out.norm [(0, IV.d (D.sl 1 z1 x2 e3)), (1, IV.d (D.sl 1 z4 x5 e6)), (5, IV.d (D.int IntKind.i64 (IntKind.wrap IntKind.i64 (i7 + 1))))]))) False) False) (Q (Out.exit 0 [(0, IV.d (D.sl 1 z1 x2 e3)), (1, IV.d (D.sl 1 z4 x5 e6)), (5, IV.d (D.int IntKind.i64 i7))]))) := by kernel_rfl
theorem q51 (C J) (z1 : Bool) (x2 : List D) (e3 : List D) (z4 : Bool) (x5 : List D) (e6 : List D) (Q) : fnW F C R (L51) J d51 [.d (.sl 2 z1 x2 e3), .d (.sl 2 z4 x5 e6)] Q = (condW ((↑(List.length x2) : Int) != (↑(List.length x5) : Int)) (Q (some (IV.d (D.bool false), [IV.d (D.sl 2 z1 x2 e3), IV.d (D.sl 2 z4 x5 e6)]))) ((∃ w0, evP F C J d51 [] [1, 1, 0, 1] [(0, IV.d (D.sl 2 z1 x2 e3)), (1, IV.d (D.sl 2 z4 x5 e6)), (5, IV.d (D.int IntKind.i64 0))] = some (Out.ret [(4, IV.d (D.bool w0))]) ∧ Q (some (IV.d (D.bool w0), [IV.d (D.sl 2 z1 x2 e3), IV.d (D.sl 2 z4 x5 e6)]))) ∨ ∃ w1 w2 w3 w4 w5 w6 w7, evP F C J d51 [] [1, 1, 0, 1] [(0, IV.d (D.sl 2 z1 x2 e3)), (1, IV.d (D.sl 2 z4 x5 e6)), (5, IV.d (D.int IntKind.i64 0))] = some (Out.norm [(0, IV.d (D.sl 2 w1 w2 w3)), (1, IV.d (D.sl 2 w4 w5 w6)), (5, IV.d (D.int IntKind.i64 w7))]) ∧ Q (some (IV.d (D.bool true), [IV.d (D.sl 2 z1 x2 e3), IV.d (D.sl 2 z4 x5 e6)])))) := by kernel_rfl
theorem q51_l0a (C J) (z1 : Bool) (x2 : List D) (e3 : List D) (z4 : Bool) (x5 : List D) (e6 : List D) (i7 : Int) (Q) : wpQ F C R (L51) J d51 [] [1,1,0,1,0,0] [(0, .d (.sl 2 z1 x2 e3)), (1, .d (.sl 2 z4 x5 e6)), (5, .d (.int .i64 i7))] Q = (condW (decide (i7 < (↑(List.length x2) : Int))) (condW (decide (0 ≤ i7)) (∃ w0 w1 w2 w3, x2[Int.toNat i7]? = some (D.agg [D.bool w0, D.sl 1 w1 w2 w3]) ∧ condW w0 (condW (decide (0 ≤ i7)) (∃ w4 w5 w6 w7, x5[Int.toNat i7]? = some (D.agg [D.bool w4, D.sl 1 w5 w6 w7]) ∧ condW w4 (condW (decide (0 ≤ i7)) (∃ w8 w9 w10 w11, x2[Int.toNat i7]? = some (D.agg [D.bool w8, D.sl 1 w9 w10 w11]) ∧ condW (decide (0 ≤ i7)) (∃ w12 w13 w14 w15, x5[Int.toNat i7]? = some (D.agg [D.bool w12, D.sl 1 w13 w14 w15]) ∧ ∃ w16 w17 w18, C 71 [IV.d (D.sl 1 w9 w10 w11), IV.d (D.sl 1 w13 w14 w15)] = some (IV.d (D.bool w16), [IV.d w17, IV.d w18]) ∧ condW w16 (Q (Out.norm [(0, IV.d (D.sl 2 z1 x2 e3)), (1, IV.d (D.sl 2 z4 x5 e6)), (5, IV.d (D.int IntKind.i64 (IntKind.wrap IntKind.i64 (i7 + 1))))])) (Q (Out.ret [(4, IV.d (D.bool false))]))) False) False) (Q (Out.ret [(4, IV.d (D.bool false))]))) False) (condW (decide (0 ≤ i7)) (∃ w19 w20 w21 w22, x5[Int.toNat i7]? = some (D.agg [D.bool w19, D.sl 1 w20 w21 w22]) ∧ condW w19 (Q (Out.ret [(4, IV.d (D.bool false))])) (condW (decide (0 ≤ i7)) (∃ w23 w24 w25 w26, x2[Int.toNat i7]? = some (D.agg [D.bool w23, D.sl 1 w24 w25 w26]) ∧ condW (decide (0 ≤ i7)) (∃ w27 w28 w29 w30, x5[Int.toNat i7]? = some (D.agg [D.bool w27, D.sl 1 w28 w29 w30]) ∧ ∃ w31 w32 w33, C 71 [IV.d (D.sl 1 w24 w25 w26), IV.d (D.sl 1 w28 w29 w30)] = some (IV.d (D.bool w31), [IV.d w32, IV.d w33]) ∧ condW w31 (Q (Out.norm [(0, IV.d (D.sl 2 z1 x2 e3)), (1, IV.d (D.sl 2 z4 x5 e6)), (5, IV.d (D.int IntKind.i64 (IntKind.wrap IntKind.i64 (i7 + 1))))])) (Q (Out.ret [(4, IV.d (D.bool false))]))) False) False)) False)) False) (Q (Out.exit 0 [(0, IV.d (D.sl 2 z1 x2 e3)), (1, IV.d (D.sl 2 z4 x5 e6)), (5, IV.d (D.int IntKind.i64 i7))]))) := by kernel_rfl
theorem q52 (C J) (z1 : Bool) (x2 : List D) (e3 : List D) (z4 : Bool) (x5 : List D) (e6 : List D) (Q) : fnW F C R (L52) J d52 [.d (.sl 1 z1 x2 e3), .d (.sl 1 z4 x5 e6)] Q = (condW ((↑(List.length x2) : Int) != (↑(List.length x5) : Int)) (Q (some (IV.d (D.bool false), [IV.d (D.sl 1 z1 x2 e3), IV.d (D.sl 1 z4 x5 e6)]))) ((∃ w0, evP F C J d52 [] [1, 1, 0, 1] [(0, IV.d (D.sl 1 z1 x2 e3)), (1, IV.d (D.sl 1 z4 x5 e6)), (5, IV.d (D.int IntKind.i64 0))] = some (Out.ret [(4, IV.d (D.bool w0))]) ∧ Q (some (IV.d (D.bool w0), [IV.d (D.sl 1 z1 x2 e3), IV.d (D.sl 1 z4 x5 e6)]))) ∨ ∃ w1 w2 w3 w4 w5 w6 w7, evP F C J d52 [] [1, 1, 0, 1] [(0, IV.d (D.sl 1 z1 x2 e3)), (1, IV.d (D.sl 1 z4 x5 e6)), (5, IV.d (D.int IntKind.i64 0))] = some (Out.norm [(0, IV.d (D.sl 1 w1 w2 w3)), (1, IV.d (D.sl 1 w4 w5 w6)), (5, IV.d (D.int IntKind.i64 w7))]) ∧ Q (some (IV.d (D.bool true), [IV.d (D.sl 1 z1 x2 e3), IV.d (D.sl 1 z4 x5 e6)])))) := by kernel_rfl
theorem q52_l0a (C J) (z1 : Bool) (x2 : List D) (e3 : List D) (z4 : Bool) (x5 : List D) (e6 : List D) (i7 : Int) (Q) : wpQ F C R (L52) J d52 [] [1,1,0,1,0,0] [(0, .d (.sl 1 z1 x2 e3)), (1, .d (.sl 1 z4 x5 e6)), (5, .d (.int .i64 i7))] Q = (condW (decide (i7 < (↑(List.length x2) : Int))) (condW (decide (0 ≤ i7)) (∃ w0 w1 w2, x2[Int.toNat i7]? = some (D.sl 1 w0 w1 w2) ∧ condW (decide (0 ≤ i7)) (∃ w3 w4 w5, x5[Int.toNat i7]? = some (D.sl 1 w3 w4 w5) ∧ ∃ w6 w7 w8, C 71 [IV.d (D.sl 1 w0 w1 w2), IV.d (D.sl 1 w3 w4 w5)] = some (IV.d (D.bool w6), [IV.d w7, IV.d w8]) ∧ condW w6 (Q (Out.norm [(0, IV.d (D.sl 1 z1 x2 e3)), (1, IV.d (D.sl 1 z4 x5 e6)), (5, IV.d (D.int IntKind.i64 (IntKind.wrap IntKind.i64 (i7 + 1))))])) (Q (Out.ret [(4, IV.d (D.bool false))]))) False) False) (Q (Out.exit 0 [(0, IV.d (D.sl 1 z1 x2 e3)), (1, IV.d (D.sl 1 z4 x5 e6)), (5, IV.d (D.int IntKind.i64 i7))]))) := by kernel_rfl
theorem q33 (C J) (z1 : Bool) (x2 : List D) (e3 : List D) (z4 : Bool) (x5 : List D) (e6 : List D) (z7 : Bool) (x8 : List D) (e9 : List D) (z10 : Bool) (x11 : List D) (e12 : List D) (z13 : Bool) (x14 : List D) (e15 : List D) (z16 : Bool) (x17 : List D) (e18 : List D) (Q) : fnW F C R (L33) J d33 [.d (.agg [.sl 2 z1 x2 e3, .sl 1 z4 x5 e6, .sl 2 z7 x8 e9]), .d (.agg [.sl 2 z10 x11 e12, .sl 1 z13 x14 e15, .sl 2 z16 x17 e18])] Q = (∃ w0 w1 w2, C 51 [IV.d (D.sl 2 z1 x2 e3), IV.d (D.sl 2 z10 x11 e12)] = some (IV.d (D.bool w0), [IV.d w1, IV.d w2]) ∧ condW w0 (∃ w3 w4 w5, C 52 [IV.d (D.sl 1 z4 x5 e6), IV.d (D.sl 1 z13 x14 e15)] = some (IV.d (D.bool w3), [IV.d w4, IV.d w5]) ∧ condW w3 (∃ w6 w7 w8, C 51 [IV.d (D.sl 2 z7 x8 e9), IV.d (D.sl 2 z16 x17 e18)] = some (IV.d (D.bool w6), [IV.d w7, IV.d w8]) ∧ condW w6 (Q (some (IV.d (D.bool true), [IV.d (D.agg [D.sl 2 z1 x2 e3, D.sl 1 z4 x5 e6, D.sl 2 z7 x8 e9]), IV.d (D.agg [D.sl 2 z10 x11 e12, D.sl 1 z13 x14 e15, D.sl 2 z16 x17 e18])]))) (Q (some (IV.d (D.bool false), [IV.d (D.agg [D.sl 2 z1 x2 e3, D.sl 1 z4 x5 e6, D.sl 2 z7 x8 e9]), IV.d (D.agg [D.sl 2 z10 x11 e12, D.sl 1 z13 x14 e15, D.sl 2 z16 x17 e18])])))) (Q (some (IV.d (D.bool false), [IV.d (D.agg [D.sl 2 z1 x2 e3, D.sl 1 z4 x5 e6, D.sl 2 z7 x8 e9]), IV.d (D.agg [D.sl 2 z10 x11 e12, D.sl 1 z13 x14 e15, D.sl 2 z16 x17 e18])])))) (Q (some (IV.d (D.bool false), [IV.d (D.agg [D.sl 2 z1 x2 e3, D.sl 1 z4 x5 e6, D.sl 2 z7 x8 e9]), IV.d (D.agg [D.sl 2 z10 x11 e12, D.sl 1 z13 x14 e15, D.sl 2 z16 x17 e18])])))) := by kernel_rfl
theorem q15 (C J) (i1 : Int) (i2 : Int) (i3 : Int) (i4 : Int) (i5 : Int) (i6 : Int) (i7 : Int) (z8 : Bool) (x9 : List D) (e10 : List D) (z11 : Bool) (x12 : List D) (e13 : List D) (z14 : Bool) (x15 : List D) (e16 : List D) (i17 : Int) (i18 : Int) (i19 : Int) (i20 : Int) (i21 : Int) (i22 : Int) (i23 : Int) (z24 : Bool) (x25 : List D) (e26 : List D) (z27 : Bool) (x28 : List D) (e29 : List D) (z30 : Bool) (x31 : List D) (e32 : List D) (Q) : fnW F C R (L15) J d15 [.d (.agg [.int .i64 i1, .int .i64 i2, .int .i64 i3, .int .i64 i4, .int .i64 i5, .int .i64 i6, .int .i64 i7, .sl 2 z8 x9 e10, .sl 1 z11 x12 e13, .sl 2 z14 x15 e16]), .d (.agg [.int .i64 i17, .int .i64 i18, .int .i64 i19, .int .i64 i20, .int .i64 i21, .int .i64 i22, .int .i64 i23, .sl 2 z24 x25 e26, .sl 1 z27 x28 e29, .sl 2 z30 x31 e32])] Q = (condW (i1 == i17) (condW (i2 == i18) (condW (i3 == i19) (condW (i4 == i20) (condW (i5 == i21) (condW (i6 == i22) (condW (i7 == i23) (∃ w0 w1 w2, C 33 [IV.d (D.agg [D.sl 2 z8 x9 e10, D.sl 1 z11 x12 e13, D.sl 2 z14 x15 e16]), IV.d (D.agg [D.sl 2 z24 x25 e26, D.sl 1 z27 x28 e29, D.sl 2 z30 x31 e32])] = some (IV.d (D.bool w0), [IV.d w1, IV.d w2]) ∧ condW w0 (Q (some (IV.d (D.bool true), [IV.d (D.agg [D.int IntKind.i64 i1, D.int IntKind.i64 i2, D.int IntKind.i64 i3, D.int IntKind.i64 i4, D.int IntKind.i64 i5, D.int IntKind.i64 i6, D.int IntKind.i64 i7, D.sl 2 z8 x9 e10, D.sl 1 z11 x12 e13, D.sl 2 z14 x15 e16]), IV.d (D.agg [D.int IntKind.i64 i17, D.int IntKind.i64 i18, D.int IntKind.i64 i19, D.int IntKind.i64 i20, D.int IntKind.i64 i21, D.int IntKind.i64 i22, D.int IntKind.i64 i23, D.sl 2 z24 x25 e26, D.sl 1 z27 x28 e29, D.sl 2 z30 x31 e32])]))) (Q (some (IV.d (D.bool false), [IV.d (D.agg [D.int IntKind.i64 i1, D.int IntKind.i64 i2, D.int IntKind.i64 i3, D.int IntKind.i64 i4, D.int IntKind.i64 i5, D.int IntKind.i64 i6, D.int IntKind.i64 i7, D.sl 2 z8 x9 e10, D.sl 1 z11 x12 e13, D.sl 2 z14 x15 e16]), IV.d (D.agg [D.int IntKind.i64 i17, D.int IntKind.i64 i18, D.int IntKind.i64 i19, D.int IntKind.i64 i20, D.int IntKind.i64 i21, D.int IntKind.i64 i22, D.int IntKind.i64 i23, D.sl 2 z24 x25 e26, D.sl 1 z27 x28 e29, D.sl 2 z30 x31 e32])])))) (Q (some (IV.d (D.bool false), [IV.d (D.agg [D.int IntKind.i64 i1, D.int IntKind.i64 i2, D.int IntKind.i64 i3, D.int IntKind.i64 i4, D.int IntKind.i64 i5, D.int IntKind.i64 i6, D.int IntKind.i64 i7, D.sl 2 z8 x9 e10, D.sl 1 z11 x12 e13, D.sl 2 z14 x15 e16]), IV.d (D.agg [D.int IntKind.i64 i17, D.int IntKind.i64 i18, D.int IntKind.i64 i19, D.int IntKind.i64 i20, D.int IntKind.i64 i21, D.int IntKind.i64 i22, D.int IntKind.i64 i23, D.sl 2 z24 x25 e26, D.sl 1 z27 x28 e29, D.sl 2 z30 x31 e32])])))) (Q (some (IV.d (D.bool false), [IV.d (D.agg [D.int IntKind.i64 i1, D.int IntKind.i64 i2, D.int IntKind.i64 i3, D.int IntKind.i64 i4, D.int IntKind.i64 i5, D.int IntKind.i64 i6, D.int IntKind.i64 i7, D.sl 2 z8 x9 e10, D.sl 1 z11 x12 e13, D.sl 2 z14 x15 e16]), IV.d (D.agg [D.int IntKind.i64 i17, D.int IntKind.i64 i18, D.int IntKind.i64 i19, D.int IntKind.i64 i20, D.int IntKind.i64 i21, D.int IntKind.i64 i22, D.int IntKind.i64 i23, D.sl 2 z24 x25 e26, D.sl 1 z27 x28 e29, D.sl 2 z30 x31 e32])])))) (Q (some (IV.d (D.bool false), [IV.d (D.agg [D.int IntKind.i64 i1, D.int IntKind.i64 i2, D.int IntKind.i64 i3, D.int IntKind.i64 i4, D.int IntKind.i64 i5, D.int IntKind.i64 i6, D.int IntKind.i64 i7, D.sl 2 z8 x9 e10, D.sl 1 z11 x12 e13, D.sl 2 z14 x15 e16]), IV.d (D.agg [D.int IntKind.i64 i17, D.int IntKind.i64 i18, D.int IntKind.i64 i19, D.int IntKind.i64 i20, D.int IntKind.i64 i21, D.int IntKind.i64 i22, D.int IntKind.i64 i23, D.sl 2 z24 x25 e26, D.sl 1 z27 x28 e29, D.sl 2 z30 x31 e32])])))) (Q (some (IV.d (D.bool false), [IV.d (D.agg [D.int IntKind.i64 i1, D.int IntKind.i64 i2, D.int IntKind.i64 i3, D.int IntKind.i64 i4, D.int IntKind.i64 i5, D.int IntKind.i64 i6, D.int IntKind.i64 i7, D.sl 2 z8 x9 e10, D.sl 1 z11 x12 e13, D.sl 2 z14 x15 e16]), IV.d (D.agg [D.int IntKind.i64 i17, D.int IntKind.i64 i18, D.int IntKind.i64 i19, D.int IntKind.i64 i20, D.int IntKind.i64 i21, D.int IntKind.i64 i22, D.int IntKind.i64 i23, D.sl 2 z24 x25 e26, D.sl 1 z27 x28 e29, D.sl 2 z30 x31 e32])])))) (Q (some (IV.d (D.bool false), [IV.d (D.agg [D.int IntKind.i64 i1, D.int IntKind.i64 i2, D.int IntKind.i64 i3, D.int IntKind.i64 i4, D.int IntKind.i64 i5, D.int IntKind.i64 i6, D.int IntKind.i64 i7, D.sl 2 z8 x9 e10, D.sl 1 z11 x12 e13, D.sl 2 z14 x15 e16]), IV.d (D.agg [D.int IntKind.i64 i17, D.int IntKind.i64 i18, D.int IntKind.i64 i19, D.int IntKind.i64 i20, D.int IntKind.i64 i21, D.int IntKind.i64 i22, D.int IntKind.i64 i23, D.sl 2 z24 x25 e26, D.sl 1 z27 x28 e29, D.sl 2 z30 x31 e32])])))) (Q (some (IV.d (D.bool false), [IV.d (D.agg [D.int IntKind.i64 i1, D.int IntKind.i64 i2, D.int IntKind.i64 i3, D.int IntKind.i64 i4, D.int IntKind.i64 i5, D.int IntKind.i64 i6, D.int IntKind.i64 i7, D.sl 2 z8 x9 e10, D.sl 1 z11 x12 e13, D.sl 2 z14 x15 e16]), IV.d (D.agg [D.int IntKind.i64 i17, D.int IntKind.i64 i18, D.int IntKind.i64 i19, D.int IntKind.i64 i20, D.int IntKind.i64 i21, D.int IntKind.i64 i22, D.int IntKind.i64 i23, D.sl 2 z24 x25 e26, D.sl 1 z27 x28 e29, D.sl 2 z30 x31 e32])])))) (Q (some (IV.d (D.bool false), [IV.d (D.agg [D.int IntKind.i64 i1, D.int IntKind.i64 i2, D.int IntKind.i64 i3, D.int IntKind.i64 i4, D.int IntKind.i64 i5, D.int IntKind.i64 i6, D.int IntKind.i64 i7, D.sl 2 z8 x9 e10, D.sl 1 z11 x12 e13, D.sl 2 z14 x15 e16]), IV.d (D.agg [D.int IntKind.i64 i17, D.int IntKind.i64 i18, D.int IntKind.i64 i19, D.int IntKind.i64 i20, D.int IntKind.i64 i21, D.int IntKind.i64 i22, D.int IntKind.i64 i23, D.sl 2 z24 x25 e26, D.sl 1 z27 x28 e29, D.sl 2 z30 x31 e32])])))) := by kernel_rfl
theorem q26 (C J) (z1 : Bool) (x2 : List D) (e3 : List D) (b4 : Bool) (Q) : fnW F C R (L26) J d26 [.dbox 61 0 [.sl 1 z1 x2 e3, .bool b4]] Q = (condW ((↑(List.length x2) : Int) == 0) (Q (some (IV.d (D.int IntKind.i64 0), [IV.dbox 61 0 [D.sl 1 z1 x2 e3, D.bool true]]))) (∃ w0, x2[0]? = some (D.str w0) ∧ ∃ w1 w2 w3, C 48 [IV.d (D.str w0)] = some (IV.tup [IV.d (D.int IntKind.i64 w1), IV.d (D.ifc w2)], [IV.d w3]) ∧ condW (decide (1 ≤ (↑(List.length x2) : Int))) (condW b4 (Q (some (IV.d (D.int IntKind.i64 w1), [IV.dbox 61 0 [D.sl 1 z1 (List.drop (Int.toNat 1) x2) [], D.bool true]]))) (condW (!w2) (Q (some (IV.d (D.int IntKind.i64 w1), [IV.dbox 61 0 [D.sl 1 z1 (List.drop (Int.toNat 1) x2) [], D.bool true]]))) (Q (some (IV.d (D.int IntKind.i64 w1), [IV.dbox 61 0 [D.sl 1 z1 (List.drop (Int.toNat 1) x2) [], D.bool false]]))))) False)) := by kernel_rfl
theorem q49 (C J) (z1 : Bool) (x2 : List D) (e3 : List D) (b4 : Bool) (Q) : fnW F C R (L49) J d49 [.dbox 61 0 [.sl 1 z1 x2 e3, .bool b4]] Q = (∃ w0 w1 w2 w3 w4, C 26 [IV.dbox 61 0 [D.sl 1 z1 x2 e3, D.bool b4]] = some (IV.d (D.int IntKind.i64 w0), [IV.dbox 61 0 [D.sl 1 w1 w2 w3, D.bool w4]]) ∧ condW w4 (Q (some (IV.d (D.int IntKind.i64 0), [IV.dbox 61 0 [D.sl 1 w1 w2 w3, D.bool true]]))) (condW (decide (w0 < 0)) (Q (some (IV.d (D.int IntKind.i64 0), [IV.dbox 61 0 [D.sl 1 w1 w2 w3, D.bool true]]))) (condW (decide (w0 > (↑(List.length w2) : Int))) (Q (some (IV.d (D.int IntKind.i64 0), [IV.dbox 61 0 [D.sl 1 w1 w2 w3, D.bool true]]))) (Q (some (IV.d (D.int IntKind.i64 w0), [IV.dbox 61 0 [D.sl 1 w1 w2 w3, D.bool false]])))))) := by kernel_rfl
theorem q50 (C J) (z1 : Bool) (x2 : List D) (e3 : List D) (b4 : Bool) (Q) : fnW F C R (L50) J d50 [.dbox 61 0 [.sl 1 z1 x2 e3, .bool b4]] Q = (∃ w0 w1 w2 w3 w4, C 49 [IV.dbox 61 0 [D.sl 1 z1 x2 e3, D.bool b4]] = some (IV.d (D.int IntKind.i64 w0), [IV.dbox 61 0 [D.sl 1 w1 w2 w3, D.bool w4]]) ∧ ∃ w5 w6 w7 w8 w9 w10 w11 w12, evP F C J d50 [0] [1, 1, 0, 1] [(0, IV.dbox 61 0 [D.sl 1 w1 w2 w3, D.bool w4]), (3, IV.own true 3 1 []), (5, IV.d (D.int IntKind.i64 w0)), (6, IV.d (D.int IntKind.i64 0))] = some (Out.norm [(0, IV.dbox 61 0 [D.sl 1 w5 w6 w7, D.bool w8]), (3, IV.own w9 3 1 w10), (5, IV.d (D.int IntKind.i64 w11)), (6, IV.d (D.int IntKind.i64 w12))]) ∧ Q (some (IV.own w9 3 1 w10, [IV.dbox 61 0 [D.sl 1 w5 w6 w7, D.bool w8]]))) := by kernel_rfl
theorem q50_l0a (C J) (z1 : Bool) (x2 : List D) (e3 : List D) (b4 : Bool) (z5 : Bool) (x6 : List D) (i7 : Int) (i8 : Int) (Q) : wpQ F C R (L50) J d50 [0] [1,1,0,1,0,0] [(0, .dbox 61 0 [.sl 1 z1 x2 e3, .bool b4]), (3, .own z5 3 1 x6), (5, .d (.int .i64 i7)), (6, .d (.int .i64 i8))] Q = (condW (decide (i8 < i7)) (∃ w0 w1 w2 w3 w4, C 26 [IV.dbox 61 0 [D.sl 1 z1 x2 e3, D.bool b4]] = some (IV.d (D.int IntKind.i64 w0), [IV.dbox 61 0 [D.sl 1 w1 w2 w3, D.bool w4]]) ∧ condW (decide (List.length x6 + (0 + 1) ≤ 9223372036854775807)) (condW (decide ((List.length x6 + (0 + 1)) * 8 ≤ 140737488355328)) (Q (Out.norm [(0, IV.dbox 61 0 [D.sl 1 w1 w2 w3, D.bool w4]), (3, IV.own (z5 && false) 3 1 (x6 ++ [D.int IntKind.i64 w0])), (5, IV.d (D.int IntKind.i64 i7)), (6, IV.d (D.int IntKind.i64 (IntKind.wrap IntKind.i64 (i8 + 1))))])) False) False) (Q (Out.exit 0 [(0, IV.dbox 61 0 [D.sl 1 z1 x2 e3, D.bool b4]), (3, IV.own z5 3 1 x6), (5, IV.d (D.int IntKind.i64 i7)), (6, IV.d (D.int IntKind.i64 i8))]))) := by kernel_rfl
theorem q27 (C J) (z1 : Bool) (x2 : List D) (e3 : List D) (b4 : Bool) (Q) : fnW F C R (L27) J d27 [.dbox 61 0 [.sl 1 z1 x2 e3, .bool b4]] Q = (∃ w0 w1 w2 w3 w4, C 49 [IV.dbox 61 0 [D.sl 1 z1 x2 e3, D.bool b4]] = some (IV.d (D.int IntKind.i64 w0), [IV.dbox 61 0 [D.sl 1 w1 w2 w3, D.bool w4]]) ∧ ∃ w5 w6 w7 w8 w9 w10 w11 w12, evP F C J d27 [0] [1, 1, 0, 1] [(0, IV.dbox 61 0 [D.sl 1 w1 w2 w3, D.bool w4]), (3, IV.own true 55 2 []), (6, IV.d (D.int IntKind.i64 w0)), (7, IV.d (D.int IntKind.i64 0))] = some (Out.norm [(0, IV.dbox 61 0 [D.sl 1 w5 w6 w7, D.bool w8]), (3, IV.own w9 55 2 w10), (6, IV.d (D.int IntKind.i64 w11)), (7, IV.d (D.int IntKind.i64 w12))]) ∧ Q (some (IV.own w9 55 2 w10, [IV.dbox 61 0 [D.sl 1 w5 w6 w7, D.bool w8]]))) := by kernel_rfl
theorem q27_l0a (C J) (z1 : Bool) (x2 : List D) (e3 : List D) (b4 : Bool) (z5 : Bool) (x6 : List D) (i7 : Int) (i8 : Int) (Q) : wpQ F C R (L27) J d27 [0] [1,1,0,1,0,0] [(0, .dbox 61 0 [.sl 1 z1 x2 e3, .bool b4]), (3, .own z5 55 2 x6), (6, .d (.int .i64 i7)), (7, .d (.int .i64 i8))] Q = (condW (decide (i8 < i7)) (∃ w0 w1 w2 w3 w4, C 26 [IV.dbox 61 0 [D.sl 1 z1 x2 e3, D.bool b4]] = some (IV.d (D.int IntKind.i64 w0), [IV.dbox 61 0 [D.sl 1 w1 w2 w3, D.bool w4]]) ∧ condW (w0 == 1) (∃ w5 w6 w7 w8 w9 w10, C 50 [IV.dbox 61 0 [D.sl 1 w1 w2 w3, D.bool w4]] = some (IV.own w5 3 1 w6, [IV.dbox 61 0 [D.sl 1 w7 w8 w9, D.bool w10]]) ∧ condW (decide (List.length x6 + (0 + 1) ≤ 9223372036854775807)) (condW (decide ((List.length x6 + (0 + 1)) * 32 ≤ 140737488355328)) (Q (Out.norm [(0, IV.dbox 61 0 [D.sl 1 w7 w8 w9, D.bool w10]), (3, IV.own (z5 && false) 55 2 (x6 ++ [D.agg [D.bool true, D.sl 1 w5 w6 []]])), (6, IV.d (D.int IntKind.i64 i7)), (7, IV.d (D.int IntKind.i64 (IntKind.wrap IntKind.i64 (i8 + 1))))])) False) False) (∃ w11 w12 w13 w14 w15 w16, C 50 [IV.dbox 61 0 [D.sl 1 w1 w2 w3, D.bool w4]] = some (IV.own w11 3 1 w12, [IV.dbox 61 0 [D.sl 1 w13 w14 w15, D.bool w16]]) ∧ condW (decide (List.length x6 + (0 + 1) ≤ 9223372036854775807)) (condW (decide ((List.length x6 + (0 + 1)) * 32 ≤ 140737488355328)) (Q (Out.norm [(0, IV.dbox 61 0 [D.sl 1 w13 w14 w15, D.bool w16]), (3, IV.own (z5 && false) 55 2 (x6 ++ [D.agg [D.bool false, D.sl 1 w11 w12 []]])), (6, IV.d (D.int IntKind.i64 i7)), (7, IV.d (D.int IntKind.i64 (IntKind.wrap IntKind.i64 (i8 + 1))))])) False) False)) (Q (Out.exit 0 [(0, IV.dbox 61 0 [D.sl 1 z1 x2 e3, D.bool b4]), (3, IV.own z5 55 2 x6), (6, IV.d (D.int IntKind.i64 i7)), (7, IV.d (D.int IntKind.i64 i8))]))) := by kernel_rfl
theorem q28 (C J) (z1 : Bool) (x2 : List D) (e3 : List D) (b4 : Bool) (Q) : fnW F C R (L28) J d28 [.dbox 61 0 [.sl 1 z1 x2 e3, .bool b4]] Q = (∃ w0 w1 w2 w3 w4, C 49 [IV.dbox 61 0 [D.sl 1 z1 x2 e3, D.bool b4]] = some (IV.d (D.int IntKind.i64 w0), [IV.dbox 61 0 [D.sl 1 w1 w2 w3, D.bool w4]]) ∧ ∃ w5 w6 w7 w8 w9 w10 w11 w12, evP F C J d28 [0] [1, 1, 0, 1] [(0, IV.dbox 61 0 [D.sl 1 w1 w2 w3, D.bool w4]), (3, IV.own true 48 1 []), (5, IV.d (D.int IntKind.i64 w0)), (6, IV.d (D.int IntKind.i64 0))] = some (Out.norm [(0, IV.dbox 61 0 [D.sl 1 w5 w6 w7, D.bool w8]), (3, IV.own w9 48 1 w10), (5, IV.d (D.int IntKind.i64 w11)), (6, IV.d (D.int IntKind.i64 w12))]) ∧ Q (some (IV.own w9 48 1 w10, [IV.dbox 61 0 [D.sl 1 w5 w6 w7, D.bool w8]]))) := by kernel_rfl
theorem q28_l0a (C J) (z1 : Bool) (x2 : List D) (e3 : List D) (b4 : Bool) (z5 : Bool) (x6 : List D) (i7 : Int) (i8 : Int) (Q) : wpQ F C R (L28) J d28 [0] [1,1,0,1,0,0] [(0, .dbox 61 0 [.sl 1 z1 x2 e3, .bool b4]), (3, .own z5 48 1 x6), (5, .d (.int .i64 i7)), (6, .d (.int .i64 i8))] Q = (condW (decide (i8 < i7)) (∃ w0 w1 w2 w3 w4 w5, C 50 [IV.dbox 61 0 [D.sl 1 z1 x2 e3, D.bool b4]] = some (IV.own w0 3 1 w1, [IV.dbox 61 0 [D.sl 1 w2 w3 w4, D.bool w5]]) ∧ condW (decide (List.length x6 + (0 + 1) ≤ 9223372036854775807)) (condW (decide ((List.length x6 + (0 + 1)) * 24 ≤ 140737488355328)) (Q (Out.norm [(0, IV.dbox 61 0 [D.sl 1 w2 w3 w4, D.bool w5]), (3, IV.own (z5 && false) 48 1 (x6 ++ [D.sl 1 w0 w1 []])), (5, IV.d (D.int IntKind.i64 i7)), (6, IV.d (D.int IntKind.i64 (IntKind.wrap IntKind.i64 (i8 + 1))))])) False) False) (Q (Out.exit 0 [(0, IV.dbox 61 0 [D.sl 1 z1 x2 e3, D.bool b4]), (3, IV.own z5 48 1 x6), (5, IV.d (D.int IntKind.i64 i7)), (6, IV.d (D.int IntKind.i64 i8))]))) := by kernel_rfl
theorem q13 (C J) (z1 : Bool) (x2 : List D) (e3 : List D) (s4 : ByteArray) (Q) : fnW F C R (L13) J d13 [.d (.sl 4 z1 x2 e3), .d (.str s4)] Q = (∃ w0 w1 w2 w3 w4, C 25 [IV.d (D.str s4), IV.d (D.str { data := #[32] })] = some (IV.d (D.sl 1 w0 w1 w2), [IV.d w3, IV.d w4]) ∧ ∃ w5 w6 w7 w8 w9, C 26 [IV.dbox 61 0 [D.sl 1 w0 w1 w2, D.bool false]] = some (IV.d (D.int IntKind.i64 w5), [IV.dbox 61 0 [D.sl 1 w6 w7 w8, D.bool w9]]) ∧ ∃ w10 w11 w12 w13 w14, C 26 [IV.dbox 61 0 [D.sl 1 w6 w7 w8, D.bool w9]] = some (IV.d (D.int IntKind.i64 w10), [IV.dbox 61 0 [D.sl 1 w11 w12 w13, D.bool w14]]) ∧ ∃ w15 w16 w17 w18 w19, C 26 [IV.dbox 61 0 [D.sl 1 w11 w12 w13, D.bool w14]] = some (IV.d (D.int IntKind.i64 w15), [IV.dbox 61 0 [D.sl 1 w16 w17 w18, D.bool w19]]) ∧ ∃ w20 w21 w22 w23 w24, C 26 [IV.dbox 61 0 [D.sl 1 w16 w17 w18, D.bool w19]] = some (IV.d (D.int IntKind.i64 w20), [IV.dbox 61 0 [D.sl 1 w21 w22 w23, D.bool w24]]) ∧ ∃ w25 w26 w27 w28 w29, C 26 [IV.dbox 61 0 [D.sl 1 w21 w22 w23, D.bool w24]] = some (IV.d (D.int IntKind.i64 w25), [IV.dbox 61 0 [D.sl 1 w26 w27 w28, D.bool w29]]) ∧ ∃ w30 w31 w32 w33 w34, C 26 [IV.dbox 61 0 [D.sl 1 w26 w27 w28, D.bool w29]] = some (IV.d (D.int IntKind.i64 w30), [IV.dbox 61 0 [D.sl 1 w31 w32 w33, D.bool w34]]) ∧ ∃ w35 w36 w37 w38 w39, C 26 [IV.dbox 61 0 [D.sl 1 w31 w32 w33, D.bool w34]] = some (IV.d (D.int IntKind.i64 w35), [IV.dbox 61 0 [D.sl 1 w36 w37 w38, D.bool w39]]) ∧ ∃ w40 w41 w42 w43 w44 w45, C 27 [IV.dbox 61 0 [D.sl 1 w36 w37 w38, D.bool w39]] = some (IV.own w40 55 2 w41, [IV.dbox 61 0 [D.sl 1 w42 w43 w44, D.bool w45]]) ∧ ∃ w46 w47 w48 w49 w50 w51, C 28 [IV.dbox 61 0 [D.sl 1 w42 w43 w44, D.bool w45]] = some (IV.own w46 48 1 w47, [IV.dbox 61 0 [D.sl 1 w48 w49 w50, D.bool w51]]) ∧ ∃ w52 w53 w54 w55 w56 w57, C 27 [IV.dbox 61 0 [D.sl 1 w48 w49 w50, D.bool w51]] = some (IV.own w52 55 2 w53, [IV.dbox 61 0 [D.sl 1 w54 w55 w56, D.bool w57]]) ∧ condW w57 (Q (some (IV.tup [IV.d (D.agg [D.int IntKind.i64 0, D.int IntKind.i64 0, D.int IntKind.i64 0, D.int IntKind.i64 0, D.int IntKind.i64 0, D.int IntKind.i64 0, D.int IntKind.i64 0, D.sl 2 true [] [], D.sl 1 true [] [], D.sl 2 true [] []]), IV.d (D.int IntKind.i64 1700)], [IV.d (D.sl 4 z1 x2 e3), IV.d (D.str s4)]))) (∃ w58 w59 w60, C 9 [IV.d (D.sl 4 z1 x2 e3), IV.d (D.agg [D.int IntKind.i64 w5, D.int IntKind.i64 w10, D.int IntKind.i64 w15, D.int IntKind.i64 w20, D.int IntKind.i64 w25, D.int IntKind.i64 w30, D.int IntKind.i64 w35, D.sl 2 w40 w41 [], D.sl 1 w46 w47 [], D.sl 2 w52 w53 []])] = some (IV.d (D.bool w58), [IV.d w59, IV.d w60]) ∧ condW w58 (∃ w61 w62, C 17 [IV.d (D.agg [D.int IntKind.i64 w5, D.int IntKind.i64 w10, D.int IntKind.i64 w15, D.int IntKind.i64 w20, D.int IntKind.i64 w25, D.int IntKind.i64 w30, D.int IntKind.i64 w35, D.sl 2 w40 w41 [], D.sl 1 w46 w47 [], D.sl 2 w52 w53 []])] = some (IV.d (D.str w61), [IV.d w62]) ∧ condW (!ByteArray.toList w61 == ByteArray.toList s4) (Q (some (IV.tup [IV.d (D.agg [D.int IntKind.i64 0, D.int IntKind.i64 0, D.int IntKind.i64 0, D.int IntKind.i64 0, D.int IntKind.i64 0, D.int IntKind.i64 0, D.int IntKind.i64 0, D.sl 2 true [] [], D.sl 1 true [] [], D.sl 2 true [] []]), IV.d (D.int IntKind.i64 1700)], [IV.d (D.sl 4 z1 x2 e3), IV.d (D.str s4)]))) (Q (some (IV.tup [IV.agg [IV.d (D.int IntKind.i64 w5), IV.d (D.int IntKind.i64 w10), IV.d (D.int IntKind.i64 w15), IV.d (D.int IntKind.i64 w20), IV.d (D.int IntKind.i64 w25), IV.d (D.int IntKind.i64 w30), IV.d (D.int IntKind.i64 w35), IV.own w40 55 2 w41, IV.own w46 48 1 w47, IV.own w52 55 2 w53], IV.d (D.int IntKind.i64 0)], [IV.d (D.sl 4 z1 x2 e3), IV.d (D.str s4)])))) (Q (some (IV.tup [IV.d (D.agg [D.int IntKind.i64 0, D.int IntKind.i64 0, D.int IntKind.i64 0, D.int IntKind.i64 0, D.int IntKind.i64 0, D.int IntKind.i64 0, D.int IntKind.i64 0, D.sl 2 true [] [], D.sl 1 true [] [], D.sl 2 true [] []]), IV.d (D.int IntKind.i64 1700)], [IV.d (D.sl 4 z1 x2 e3), IV.d (D.str s4)]))))) := by kernel_rfl
theorem q29 (C J) (s1 : ByteArray) (Q) : fnW F C R (L29) J d29 [.d (.str s1)] Q = ((∃ w0 w1, evP F C J d29 [] [1, 1, 1, 0] [(0, IV.d (D.str s1)), (3, IV.own true 3 1 []), (4, IV.d (D.int IntKind.i64 0))] = some (Out.ret [(2, IV.own w0 3 1 w1)]) ∧ Q (some (IV.own w0 3 1 w1, [IV.d (D.str s1)]))) ∨ ∃ w2 w3 w4 w5, evP F C J d29 [] [1, 1, 1, 0] [(0, IV.d (D.str s1)), (3, IV.own true 3 1 []), (4, IV.d (D.int IntKind.i64 0))] = some (Out.norm [(0, IV.d (D.str w2)), (3, IV.own w3 3 1 w4), (4, IV.d (D.int IntKind.i64 w5))]) ∧ Q (some (IV.own w3 3 1 w4, [IV.d (D.str s1)]))) := by kernel_rfl
theorem q29_l0a (C J) (s1 : ByteArray) (z2 : Bool) (x3 : List D) (i4 : Int) (Q) : wpQ F C R (L29) J d29 [] [1,1,1,0,0,0] [(0, .d (.str s1)), (3, .own z2 3 1 x3), (4, .d (.int .i64 i4))] Q = (condW (decide (i4 < (↑(ByteArray.size s1) : Int))) (condW (decide (0 ≤ i4)) (condW (decide (i4 < (↑(ByteArray.size s1) : Int))) (condW (byteAt s1 (Int.toNat i4) == 45) (∃ w0 w1 w2 w3 w4 w5 w6, evP F C J d29 [] [1, 1, 1, 0, 0, 0, 1, 0, 1, 1, 1, 0] [(0, IV.d (D.str s1)), (3, IV.own z2 3 1 x3), (4, IV.d (D.int IntKind.i64 (IntKind.wrap IntKind.i64 (i4 + 1)))), (5, IV.d (D.bool true)), (6, IV.d (D.int IntKind.i64 0)), (7, IV.d (D.int IntKind.i64 0))] = some (Out.norm [(0, IV.d (D.str w0)), (3, IV.own w1 3 1 w2), (4, IV.d (D.int IntKind.i64 w3)), (5, IV.d (D.bool w4)), (6, IV.d (D.int IntKind.i64 w5)), (7, IV.d (D.int IntKind.i64 w6))]) ∧ condW (w6 == 0) (Q (Out.ret [(2, IV.own w1 3 1 w2)])) (condW (w6 == 7) (Q (Out.ret [(2, IV.own w1 3 1 w2)])) (condW w4 (condW (decide (List.length w2 + (0 + 1) ≤ 9223372036854775807)) (condW (decide ((List.length w2 + (0 + 1)) * 8 ≤ 140737488355328)) (condW (decide (w3 < (↑(ByteArray.size w0) : Int))) (condW (decide (0 ≤ w3)) (condW (decide (w3 < (↑(ByteArray.size w0) : Int))) (condW (byteAt w0 (Int.toNat w3) != 32) (Q (Out.ret [(2, IV.own (w1 && false) 3 1 (w2 ++ [D.int IntKind.i64 (IntKind.wrap IntKind.i64 (0 - w5))]))])) (Q (Out.norm [(0, IV.d (D.str w0)), (3, IV.own (w1 && false) 3 1 (w2 ++ [D.int IntKind.i64 (IntKind.wrap IntKind.i64 (0 - w5))])), (4, IV.d (D.int IntKind.i64 (IntKind.wrap IntKind.i64 (w3 + 1))))]))) False) False) (Q (Out.norm [(0, IV.d (D.str w0)), (3, IV.own (w1 && false) 3 1 (w2 ++ [D.int IntKind.i64 (IntKind.wrap IntKind.i64 (0 - w5))])), (4, IV.d (D.int IntKind.i64 (IntKind.wrap IntKind.i64 (w3 + 1))))]))) False) False) (condW (decide (List.length w2 + (0 + 1) ≤ 9223372036854775807)) (condW (decide ((List.length w2 + (0 + 1)) * 8 ≤ 140737488355328)) (condW (decide (w3 < (↑(ByteArray.size w0) : Int))) (condW (decide (0 ≤ w3)) (condW (decide (w3 < (↑(ByteArray.size w0) : Int))) (condW (byteAt w0 (Int.toNat w3) != 32) (Q (Out.ret [(2, IV.own (w1 && false) 3 1 (w2 ++ [D.int IntKind.i64 w5]))])) (Q (Out.norm [(0, IV.d (D.str w0)), (3, IV.own (w1 && false) 3 1 (w2 ++ [D.int IntKind.i64 w5])), (4, IV.d (D.int IntKind.i64 (IntKind.wrap IntKind.i64 (w3 + 1))))]))) False) False) (Q (Out.norm [(0, IV.d (D.str w0)), (3, IV.own (w1 && false) 3 1 (w2 ++ [D.int IntKind.i64 w5])), (4, IV.d (D.int IntKind.i64 (IntKind.wrap IntKind.i64 (w3 + 1))))]))) False) False)))) (∃ w7 w8 w9 w10 w11 w12 w13, evP F C J d29 [] [1, 1, 1, 0, 0, 0, 1, 0, 1, 1, 1, 0] [(0, IV.d (D.str s1)), (3, IV.own z2 3 1 x3), (4, IV.d (D.int IntKind.i64 i4)), (5, IV.d (D.bool false)), (6, IV.d (D.int IntKind.i64 0)), (7, IV.d (D.int IntKind.i64 0))] = some (Out.norm [(0, IV.d (D.str w7)), (3, IV.own w8 3 1 w9), (4, IV.d (D.int IntKind.i64 w10)), (5, IV.d (D.bool w11)), (6, IV.d (D.int IntKind.i64 w12)), (7, IV.d (D.int IntKind.i64 w13))]) ∧ condW (w13 == 0) (Q (Out.ret [(2, IV.own w8 3 1 w9)])) (condW (w13 == 7) (Q (Out.ret [(2, IV.own w8 3 1 w9)])) (condW w11 (condW (decide (List.length w9 + (0 + 1) ≤ 9223372036854775807)) (condW (decide ((List.length w9 + (0 + 1)) * 8 ≤ 140737488355328)) (condW (decide (w10 < (↑(ByteArray.size w7) : Int))) (condW (decide (0 ≤ w10)) (condW (decide (w10 < (↑(ByteArray.size w7) : Int))) (condW (byteAt w7 (Int.toNat w10) != 32) (Q (Out.ret [(2, IV.own (w8 && false) 3 1 (w9 ++ [D.int IntKind.i64 (IntKind.wrap IntKind.i64 (0 - w12))]))])) (Q (Out.norm [(0, IV.d (D.str w7)), (3, IV.own (w8 && false) 3 1 (w9 ++ [D.int IntKind.i64 (IntKind.wrap IntKind.i64 (0 - w12))])), (4, IV.d (D.int IntKind.i64 (IntKind.wrap IntKind.i64 (w10 + 1))))]))) False) False) (Q (Out.norm [(0, IV.d (D.str w7)), (3, IV.own (w8 && false) 3 1 (w9 ++ [D.int IntKind.i64 (IntKind.wrap IntKind.i64 (0 - w12))])), (4, IV.d (D.int IntKind.i64 (IntKind.wrap IntKind.i64 (w10 + 1))))]))) False) False) (condW (decide (List.length w9 + (0 + 1) ≤ 9223372036854775807)) (condW (decide ((List.length w9 + (0 + 1)) * 8 ≤ 140737488355328)) (condW (decide (w10 < (↑(ByteArray.size w7) : Int))) (condW (decide (0 ≤ w10)) (condW (decide (w10 < (↑(ByteArray.size w7) : Int))) (condW (byteAt w7 (Int.toNat w10) != 32) (Q (Out.ret [(2, IV.own (w8 && false) 3 1 (w9 ++ [D.int IntKind.i64 w12]))])) (Q (Out.norm [(0, IV.d (D.str w7)), (3, IV.own (w8 && false) 3 1 (w9 ++ [D.int IntKind.i64 w12])), (4, IV.d (D.int IntKind.i64 (IntKind.wrap IntKind.i64 (w10 + 1))))]))) False) False) (Q (Out.norm [(0, IV.d (D.str w7)), (3, IV.own (w8 && false) 3 1 (w9 ++ [D.int IntKind.i64 w12])), (4, IV.d (D.int IntKind.i64 (IntKind.wrap IntKind.i64 (w10 + 1))))]))) False) False))))) False) False) (Q (Out.exit 0 [(0, IV.d (D.str s1)), (3, IV.own z2 3 1 x3), (4, IV.d (D.int IntKind.i64 i4))]))) := by kernel_rfl
theorem q29_l2a (C J) (s1 : ByteArray) (z2 : Bool) (x3 : List D) (i4 : Int) (b5 : Bool) (i6 : Int) (i7 : Int) (Q) : wpQ F C R (L29) J d29 [] [1,1,1,0,0,0,1,0,1,1,1,0,0,0] [(0, .d (.str s1)), (3, .own z2 3 1 x3), (4, .d (.int .i64 i4)), (5, .d (.bool b5)), (6, .d (.int .i64 i6)), (7, .d (.int .i64 i7))] Q = (condW (decide (i4 < (↑(ByteArray.size s1) : Int))) (condW (decide (0 ≤ i4)) (condW (decide (i4 < (↑(ByteArray.size s1) : Int))) (condW (decide (byteAt s1 (Int.toNat i4) ≥ 48)) (condW (decide (0 ≤ i4)) (condW (decide (i4 < (↑(ByteArray.size s1) : Int))) (condW (decide (byteAt s1 (Int.toNat i4) ≤ 57)) (condW (decide (i7 < 7)) (condW (decide (0 ≤ i4)) (condW (decide (i4 < (↑(ByteArray.size s1) : Int))) (Q (Out.norm [(0, IV.d (D.str s1)), (3, IV.own z2 3 1 x3), (4, IV.d (D.int IntKind.i64 (IntKind.wrap IntKind.i64 (i4 + 1)))), (5, IV.d (D.bool b5)), (6, IV.d (D.int IntKind.i64 (IntKind.wrap IntKind.i64 (IntKind.wrap IntKind.i64 (i6 * 10) + IntKind.wrap IntKind.i64 (IntKind.wrap IntKind.u8 (byteAt s1 (Int.toNat i4) - 48)))))), (7, IV.d (D.int IntKind.i64 (IntKind.wrap IntKind.i64 (i7 + 1))))])) False) False) (Q (Out.exit 2 [(0, IV.d (D.str s1)), (3, IV.own z2 3 1 x3), (4, IV.d (D.int IntKind.i64 i4)), (5, IV.d (D.bool b5)), (6, IV.d (D.int IntKind.i64 i6)), (7, IV.d (D.int IntKind.i64 i7))]))) (Q (Out.exit 2 [(0, IV.d (D.str s1)), (3, IV.own z2 3 1 x3), (4, IV.d (D.int IntKind.i64 i4)), (5, IV.d (D.bool b5)), (6, IV.d (D.int IntKind.i64 i6)), (7, IV.d (D.int IntKind.i64 i7))]))) False) False) (Q (Out.exit 2 [(0, IV.d (D.str s1)), (3, IV.own z2 3 1 x3), (4, IV.d (D.int IntKind.i64 i4)), (5, IV.d (D.bool b5)), (6, IV.d (D.int IntKind.i64 i6)), (7, IV.d (D.int IntKind.i64 i7))]))) False) False) (Q (Out.exit 2 [(0, IV.d (D.str s1)), (3, IV.own z2 3 1 x3), (4, IV.d (D.int IntKind.i64 i4)), (5, IV.d (D.bool b5)), (6, IV.d (D.int IntKind.i64 i6)), (7, IV.d (D.int IntKind.i64 i7))]))) := by kernel_rfl
theorem q30 (C J) (z1 : Bool) (x2 : List D) (e3 : List D) (i4 : Int) (b5 : Bool) (Q) : fnW F C R (L30) J d30 [.dbox 68 0 [.sl 1 z1 x2 e3, .int .i64 i4, .bool b5]] Q = (condW (decide (i4 ≥ (↑(List.length x2) : Int))) (Q (some (IV.d (D.int IntKind.i64 0), [IV.dbox 68 0 [D.sl 1 z1 x2 e3, D.int IntKind.i64 i4, D.bool true]]))) (condW (decide (0 ≤ IntKind.wrap IntKind.i64 (IntKind.wrap IntKind.i64 (i4 + 1) - 1))) (∃ w0, x2[Int.toNat (IntKind.wrap IntKind.i64 (IntKind.wrap IntKind.i64 (i4 + 1) - 1))]? = some (D.int IntKind.i64 w0) ∧ Q (some (IV.d (D.int IntKind.i64 w0), [IV.dbox 68 0 [D.sl 1 z1 x2 e3, D.int IntKind.i64 (IntKind.wrap IntKind.i64 (i4 + 1)), D.bool b5]]))) False)) := by kernel_rfl
theorem q32 (C J) (z1 : Bool) (x2 : List D) (e3 : List D) (i4 : Int) (b5 : Bool) (Q) : fnW F C R (L32) J d32 [.dbox 68 0 [.sl 1 z1 x2 e3, .int .i64 i4, .bool b5]] Q = (∃ w0 w1 w2 w3 w4 w5, C 30 [IV.dbox 68 0 [D.sl 1 z1 x2 e3, D.int IntKind.i64 i4, D.bool b5]] = some (IV.d (D.int IntKind.i64 w0), [IV.dbox 68 0 [D.sl 1 w1 w2 w3, D.int IntKind.i64 w4, D.bool w5]]) ∧ ∃ w6 w7 w8 w9 w10 w11 w12 w13 w14, evP F C J d32 [0] [1, 1, 1, 0, 1] [(0, IV.dbox 68 0 [D.sl 1 w1 w2 w3, D.int IntKind.i64 w4, D.bool w5]), (3, IV.own true 3 1 []), (4, IV.d (D.int IntKind.i64 w0)), (5, IV.d (D.int IntKind.i64 0))] = some (Out.norm [(0, IV.dbox 68 0 [D.sl 1 w6 w7 w8, D.int IntKind.i64 w9, D.bool w10]), (3, IV.own w11 3 1 w12), (4, IV.d (D.int IntKind.i64 w13)), (5, IV.d (D.int IntKind.i64 w14))]) ∧ Q (some (IV.own w11 3 1 w12, [IV.dbox 68 0 [D.sl 1 w6 w7 w8, D.int IntKind.i64 w9, D.bool w10]]))) := by kernel_rfl
theorem q32_l0a (C J) (z1 : Bool) (x2 : List D) (e3 : List D) (i4 : Int) (b5 : Bool) (z6 : Bool) (x7 : List D) (i8 : Int) (i9 : Int) (Q) : wpQ F C R (L32) J d32 [0] [1,1,1,0,1,0,0] [(0, .dbox 68 0 [.sl 1 z1 x2 e3, .int .i64 i4, .bool b5]), (3, .own z6 3 1 x7), (4, .d (.int .i64 i8)), (5, .d (.int .i64 i9))] Q = (condW (decide (i9 < i8)) (condW b5 (Q (Out.exit 0 [(0, IV.dbox 68 0 [D.sl 1 z1 x2 e3, D.int IntKind.i64 i4, D.bool b5]), (3, IV.own z6 3 1 x7), (4, IV.d (D.int IntKind.i64 i8)), (5, IV.d (D.int IntKind.i64 i9))])) (∃ w0 w1 w2 w3 w4 w5, C 30 [IV.dbox 68 0 [D.sl 1 z1 x2 e3, D.int IntKind.i64 i4, D.bool b5]] = some (IV.d (D.int IntKind.i64 w0), [IV.dbox 68 0 [D.sl 1 w1 w2 w3, D.int IntKind.i64 w4, D.bool w5]]) ∧ condW (decide (List.length x7 + (0 + 1) ≤ 9223372036854775807)) (condW (decide ((List.length x7 + (0 + 1)) * 8 ≤ 140737488355328)) (Q (Out.norm [(0, IV.dbox 68 0 [D.sl 1 w1 w2 w3, D.int IntKind.i64 w4, D.bool w5]), (3, IV.own (z6 && false) 3 1 (x7 ++ [D.int IntKind.i64 w0])), (4, IV.d (D.int IntKind.i64 i8)), (5, IV.d (D.int IntKind.i64 (IntKind.wrap IntKind.i64 (i9 + 1))))])) False) False)) (Q (Out.exit 0 [(0, IV.dbox 68 0 [D.sl 1 z1 x2 e3, D.int IntKind.i64 i4, D.bool b5]), (3, IV.own z6 3 1 x7), (4, IV.d (D.int IntKind.i64 i8)), (5, IV.d (D.int IntKind.i64 i9))]))) := by kernel_rfl
theorem q31 (C J) (z1 : Bool) (x2 : List D) (e3 : List D) (i4 : Int) (b5 : Bool) (Q) : fnW F C R (L31) J d31 [.dbox 68 0 [.sl 1 z1 x2 e3, .int .i64 i4, .bool b5]] Q = (∃ w0 w1 w2 w3 w4 w5, C 30 [IV.dbox 68 0 [D.sl 1 z1 x2 e3, D.int IntKind.i64 i4, D.bool b5]] = some (IV.d (D.int IntKind.i64 w0), [IV.dbox 68 0 [D.sl 1 w1 w2 w3, D.int IntKind.i64 w4, D.bool w5]]) ∧ ∃ w6 w7 w8 w9 w10 w11 w12 w13 w14, evP F C J d31 [0] [1, 1, 1, 0, 1] [(0, IV.dbox 68 0 [D.sl 1 w1 w2 w3, D.int IntKind.i64 w4, D.bool w5]), (3, IV.own true 55 2 []), (4, IV.d (D.int IntKind.i64 w0)), (5, IV.d (D.int IntKind.i64 0))] = some (Out.norm [(0, IV.dbox 68 0 [D.sl 1 w6 w7 w8, D.int IntKind.i64 w9, D.bool w10]), (3, IV.own w11 55 2 w12), (4, IV.d (D.int IntKind.i64 w13)), (5, IV.d (D.int IntKind.i64 w14))]) ∧ Q (some (IV.own w11 55 2 w12, [IV.dbox 68 0 [D.sl 1 w6 w7 w8, D.int IntKind.i64 w9, D.bool w10]]))) := by kernel_rfl
theorem q31_l0a (C J) (z1 : Bool) (x2 : List D) (e3 : List D) (i4 : Int) (b5 : Bool) (z6 : Bool) (x7 : List D) (i8 : Int) (i9 : Int) (Q) : wpQ F C R (L31) J d31 [0] [1,1,1,0,1,0,0] [(0, .dbox 68 0 [.sl 1 z1 x2 e3, .int .i64 i4, .bool b5]), (3, .own z6 55 2 x7), (4, .d (.int .i64 i8)), (5, .d (.int .i64 i9))] Q = (condW (decide (i9 < i8)) (condW b5 (Q (Out.exit 0 [(0, IV.dbox 68 0 [D.sl 1 z1 x2 e3, D.int IntKind.i64 i4, D.bool b5]), (3, IV.own z6 55 2 x7), (4, IV.d (D.int IntKind.i64 i8)), (5, IV.d (D.int IntKind.i64 i9))])) (∃ w0 w1 w2 w3 w4 w5, C 30 [IV.dbox 68 0 [D.sl 1 z1 x2 e3, D.int IntKind.i64 i4, D.bool b5]] = some (IV.d (D.int IntKind.i64 w0), [IV.dbox 68 0 [D.sl 1 w1 w2 w3, D.int IntKind.i64 w4, D.bool w5]]) ∧ condW (w0 == 1) (∃ w6 w7 w8 w9 w10 w11 w12, C 32 [IV.dbox 68 0 [D.sl 1 w1 w2 w3, D.int IntKind.i64 w4, D.bool w5]] = some (IV.own w6 3 1 w7, [IV.dbox 68 0 [D.sl 1 w8 w9 w10, D.int IntKind.i64 w11, D.bool w12]]) ∧ condW (decide (List.length x7 + (0 + 1) ≤ 9223372036854775807)) (condW (decide ((List.length x7 + (0 + 1)) * 32 ≤ 140737488355328)) (Q (Out.norm [(0, IV.dbox 68 0 [D.sl 1 w8 w9 w10, D.int IntKind.i64 w11, D.bool w12]), (3, IV.own (z6 && false) 55 2 (x7 ++ [D.agg [D.bool true, D.sl 1 w6 w7 []]])), (4, IV.d (D.int IntKind.i64 i8)), (5, IV.d (D.int IntKind.i64 (IntKind.wrap IntKind.i64 (i9 + 1))))])) False) False) (∃ w13 w14 w15 w16 w17 w18 w19, C 32 [IV.dbox 68 0 [D.sl 1 w1 w2 w3, D.int IntKind.i64 w4, D.bool w5]] = some (IV.own w13 3 1 w14, [IV.dbox 68 0 [D.sl 1 w15 w16 w17, D.int IntKind.i64 w18, D.bool w19]]) ∧ condW (decide (List.length x7 + (0 + 1) ≤ 9223372036854775807)) (condW (decide ((List.length x7 + (0 + 1)) * 32 ≤ 140737488355328)) (Q (Out.norm [(0, IV.dbox 68 0 [D.sl 1 w15 w16 w17, D.int IntKind.i64 w18, D.bool w19]), (3, IV.own (z6 && false) 55 2 (x7 ++ [D.agg [D.bool false, D.sl 1 w13 w14 []]])), (4, IV.d (D.int IntKind.i64 i8)), (5, IV.d (D.int IntKind.i64 (IntKind.wrap IntKind.i64 (i9 + 1))))])) False) False))) (Q (Out.exit 0 [(0, IV.dbox 68 0 [D.sl 1 z1 x2 e3, D.int IntKind.i64 i4, D.bool b5]), (3, IV.own z6 55 2 x7), (4, IV.d (D.int IntKind.i64 i8)), (5, IV.d (D.int IntKind.i64 i9))]))) := by kernel_rfl
theorem q14 (C J) (z1 : Bool) (x2 : List D) (e3 : List D) (s4 : ByteArray) (Q) : fnW F C R (L14) J d14 [.d (.sl 4 z1 x2 e3), .d (.str s4)] Q = (∃ w0 w1 w2, C 29 [IV.d (D.str s4)] = some (IV.own w0 3 1 w1, [IV.d w2]) ∧ ∃ w3 w4 w5 w6 w7 w8, C 30 [IV.dbox 68 0 [D.sl 1 w0 w1 [], D.int IntKind.i64 0, D.bool false]] = some (IV.d (D.int IntKind.i64 w3), [IV.dbox 68 0 [D.sl 1 w4 w5 w6, D.int IntKind.i64 w7, D.bool w8]]) ∧ ∃ w9 w10 w11 w12 w13 w14, C 30 [IV.dbox 68 0 [D.sl 1 w4 w5 w6, D.int IntKind.i64 w7, D.bool w8]] = some (IV.d (D.int IntKind.i64 w9), [IV.dbox 68 0 [D.sl 1 w10 w11 w12, D.int IntKind.i64 w13, D.bool w14]]) ∧ ∃ w15 w16 w17 w18 w19 w20, C 30 [IV.dbox 68 0 [D.sl 1 w10 w11 w12, D.int IntKind.i64 w13, D.bool w14]] = some (IV.d (D.int IntKind.i64 w15), [IV.dbox 68 0 [D.sl 1 w16 w17 w18, D.int IntKind.i64 w19, D.bool w20]]) ∧ ∃ w21 w22 w23 w24 w25 w26, C 30 [IV.dbox 68 0 [D.sl 1 w16 w17 w18, D.int IntKind.i64 w19, D.bool w20]] = some (IV.d (D.int IntKind.i64 w21), [IV.dbox 68 0 [D.sl 1 w22 w23 w24, D.int IntKind.i64 w25, D.bool w26]]) ∧ ∃ w27 w28 w29 w30 w31 w32, C 30 [IV.dbox 68 0 [D.sl 1 w22 w23 w24, D.int IntKind.i64 w25, D.bool w26]] = some (IV.d (D.int IntKind.i64 w27), [IV.dbox 68 0 [D.sl 1 w28 w29 w30, D.int IntKind.i64 w31, D.bool w32]]) ∧ ∃ w33 w34 w35 w36 w37 w38, C 30 [IV.dbox 68 0 [D.sl 1 w28 w29 w30, D.int IntKind.i64 w31, D.bool w32]] = some (IV.d (D.int IntKind.i64 w33), [IV.dbox 68 0 [D.sl 1 w34 w35 w36, D.int IntKind.i64 w37, D.bool w38]]) ∧ ∃ w39 w40 w41 w42 w43 w44, C 30 [IV.dbox 68 0 [D.sl 1 w34 w35 w36, D.int IntKind.i64 w37, D.bool w38]] = some (IV.d (D.int IntKind.i64 w39), [IV.dbox 68 0 [D.sl 1 w40 w41 w42, D.int IntKind.i64 w43, D.bool w44]]) ∧ ∃ w45 w46 w47 w48 w49 w50 w51, C 31 [IV.dbox 68 0 [D.sl 1 w40 w41 w42, D.int IntKind.i64 w43, D.bool w44]] = some (IV.own w45 55 2 w46, [IV.dbox 68 0 [D.sl 1 w47 w48 w49, D.int IntKind.i64 w50, D.bool w51]]) ∧ ∃ w52 w53 w54 w55 w56 w57, C 30 [IV.dbox 68 0 [D.sl 1 w47 w48 w49, D.int IntKind.i64 w50, D.bool w51]] = some (IV.d (D.int IntKind.i64 w52), [IV.dbox 68 0 [D.sl 1 w53 w54 w55, D.int IntKind.i64 w56, D.bool w57]]) ∧ ∃ w58 w59 w60 w61 w62 w63 w64 w65 w66 w67 w68 w69 w70 w71 w72 w73 w74 w75 w76 w77 w78 w79 w80 w81 w82 w83 w84 w85 w86, evP F C J d14 [] [1, 1, 1, 1, 1, 1, 1, 1, 1, 1, 1, 0, 1] [(0, IV.d (D.sl 4 z1 x2 e3)), (1, IV.d (D.str s4)), (4, IV.dbox 28 0 [D.int IntKind.i64 0, D.int IntKind.i64 0, D.int IntKind.i64 0, D.int IntKind.i64 0, D.int IntKind.i64 0, D.int IntKind.i64 0, D.int IntKind.i64 0, D.sl 2 true [] [], D.sl 1 true [] [], D.sl 2 true [] []]), (6, IV.dbox 68 0 [D.sl 1 w53 w54 w55, D.int IntKind.i64 w56, D.bool w57]), (7, IV.ptr 28 0 [IV.d (D.int IntKind.i64 w3), IV.d (D.int IntKind.i64 w9), IV.d (D.int IntKind.i64 w15), IV.d (D.int IntKind.i64 w21), IV.d (D.int IntKind.i64 w27), IV.d (D.int IntKind.i64 w33), IV.d (D.int IntKind.i64 w39), IV.own w45 55 2 w46, IV.own true 48 1 [], IV.d (D.sl 2 true [] [])]), (8, IV.d (D.int IntKind.i64 w52)), (9, IV.d (D.int IntKind.i64 0))] = some (Out.norm [(0, IV.d (D.sl 4 w58 w59 w60)), (1, IV.d (D.str w61)), (4, IV.dbox 28 0 [D.int IntKind.i64 w62, D.int IntKind.i64 w63, D.int IntKind.i64 w64, D.int IntKind.i64 w65, D.int IntKind.i64 w66, D.int IntKind.i64 w67, D.int IntKind.i64 w68, D.sl 2 true [] [], D.sl 1 true [] [], D.sl 2 true [] []]), (6, IV.dbox 68 0 [D.sl 1 w69 w70 w71, D.int IntKind.i64 w72, D.bool w73]), (7, IV.ptr 28 0 [IV.d (D.int IntKind.i64 w74), IV.d (D.int IntKind.i64 w75), IV.d (D.int IntKind.i64 w76), IV.d (D.int IntKind.i64 w77), IV.d (D.int IntKind.i64 w78), IV.d (D.int IntKind.i64 w79), IV.d (D.int IntKind.i64 w80), IV.own w81 55 2 w82, IV.own w83 48 1 w84, IV.d (D.sl 2 true [] [])]), (8, IV.d (D.int IntKind.i64 w85)), (9, IV.d (D.int IntKind.i64 w86))]) ∧ ∃ w87 w88 w89 w90 w91 w92 w93, C 31 [IV.dbox 68 0 [D.sl 1 w69 w70 w71, D.int IntKind.i64 w72, D.bool w73]] = some (IV.own w87 55 2 w88, [IV.dbox 68 0 [D.sl 1 w89 w90 w91, D.int IntKind.i64 w92, D.bool w93]]) ∧ ∃ w94 w95 w96 w97, C 7 [IV.d (D.sl 4 w58 w59 w60), IV.d (D.agg [D.int IntKind.i64 w74, D.int IntKind.i64 w75, D.int IntKind.i64 w76, D.int IntKind.i64 w77, D.int IntKind.i64 w78, D.int IntKind.i64 w79, D.int IntKind.i64 w80, D.sl 2 w81 w82 [], D.sl 1 w83 w84 [], D.sl 2 w87 w88 []])] = some (IV.tup [IV.d (D.str w94), IV.d (D.int IntKind.i64 w95)], [IV.d w96, IV.d w97]) ∧ condW w93 (Q (some (IV.tup [IV.d (D.agg [D.int IntKind.i64 0, D.int IntKind.i64 0, D.int IntKind.i64 0, D.int IntKind.i64 0, D.int IntKind.i64 0, D.int IntKind.i64 0, D.int IntKind.i64 0, D.sl 2 true [] [], D.sl 1 true [] [], D.sl 2 true [] []]), IV.d (D.int IntKind.i64 1700)], [IV.d (D.sl 4 z1 x2 e3), IV.d (D.str s4)]))) (condW (w95 != 0) (Q (some (IV.tup [IV.d (D.agg [D.int IntKind.i64 0, D.int IntKind.i64 0, D.int IntKind.i64 0, D.int IntKind.i64 0, D.int IntKind.i64 0, D.int IntKind.i64 0, D.int IntKind.i64 0, D.sl 2 true [] [], D.sl 1 true [] [], D.sl 2 true [] []]), IV.d (D.int IntKind.i64 1700)], [IV.d (D.sl 4 z1 x2 e3), IV.d (D.str s4)]))) (condW (!ByteArray.toList w94 == ByteArray.toList w61) (Q (some (IV.tup [IV.d (D.agg [D.int IntKind.i64 0, D.int IntKind.i64 0, D.int IntKind.i64 0, D.int IntKind.i64 0, D.int IntKind.i64 0, D.int IntKind.i64 0, D.int IntKind.i64 0, D.sl 2 true [] [], D.sl 1 true [] [], D.sl 2 true [] []]), IV.d (D.int IntKind.i64 1700)], [IV.d (D.sl 4 z1 x2 e3), IV.d (D.str s4)]))) (Q (some (IV.tup [IV.agg [IV.d (D.int IntKind.i64 w74), IV.d (D.int IntKind.i64 w75), IV.d (D.int IntKind.i64 w76), IV.d (D.int IntKind.i64 w77), IV.d (D.int IntKind.i64 w78), IV.d (D.int IntKind.i64 w79), IV.d (D.int IntKind.i64 w80), IV.own w81 55 2 w82, IV.own w83 48 1 w84, IV.own w87 55 2 w88], IV.d (D.int IntKind.i64 0)], [IV.d (D.sl 4 z1 x2 e3), IV.d (D.str s4)])))))) := by kernel_rfl
theorem q14_l0a (C J) (z1 : Bool) (x2 : List D) (e3 : List D) (s4 : ByteArray) (i5 : Int) (i6 : Int) (i7 : Int) (i8 : Int) (i9 : Int) (i10 : Int) (i11 : Int) (z12 : Bool) (x13 : List D) (e14 : List D) (i15 : Int) (b16 : Bool) (i17 : Int) (i18 : Int) (i19 : Int) (i20 : Int) (i21 : Int) (i22 : Int) (i23 : Int) (z24 : Bool) (x25 : List D) (z26 : Bool) (x27 : List D) (i28 : Int) (i29 : Int) (Q) : wpQ F C R (L14) J d14 [] [1,1,1,1,1,1,1,1,1,1,1,0,1,0,0] [(0, .d (.sl 4 z1 x2 e3)), (1, .d (.str s4)), (4, .dbox 28 0 [.int .i64 i5, .int .i64 i6, .int .i64 i7, .int .i64 i8, .int .i64 i9, .int .i64 i10, .int .i64 i11, .sl 2 true [] [], .sl 1 true [] [], .sl 2 true [] []]), (6, .dbox 68 0 [.sl 1 z12 x13 e14, .int .i64 i15, .bool b16]), (7, .ptr 28 0 [.d (.int .i64 i17), .d (.int .i64 i18), .d (.int .i64 i19), .d (.int .i64 i20), .d (.int .i64 i21), .d (.int .i64 i22), .d (.int .i64 i23), .own z24 55 2 x25, .own z26 48 1 x27, .d (.sl 2 true [] [])]), (8, .d (.int .i64 i28)), (9, .d (.int .i64 i29))] Q = (condW (decide (i29 < i28)) (condW b16 (Q (Out.exit 0 [(0, IV.d (D.sl 4 z1 x2 e3)), (1, IV.d (D.str s4)), (4, IV.dbox 28 0 [D.int IntKind.i64 i5, D.int IntKind.i64 i6, D.int IntKind.i64 i7, D.int IntKind.i64 i8, D.int IntKind.i64 i9, D.int IntKind.i64 i10, D.int IntKind.i64 i11, D.sl 2 true [] [], D.sl 1 true [] [], D.sl 2 true [] []]), (6, IV.dbox 68 0 [D.sl 1 z12 x13 e14, D.int IntKind.i64 i15, D.bool b16]), (7, IV.ptr 28 0 [IV.d (D.int IntKind.i64 i17), IV.d (D.int IntKind.i64 i18), IV.d (D.int IntKind.i64 i19), IV.d (D.int IntKind.i64 i20), IV.d (D.int IntKind.i64 i21), IV.d (D.int IntKind.i64 i22), IV.d (D.int IntKind.i64 i23), IV.own z24 55 2 x25, IV.own z26 48 1 x27, IV.d (D.sl 2 true [] [])]), (8, IV.d (D.int IntKind.i64 i28)), (9, IV.d (D.int IntKind.i64 i29))])) (∃ w0 w1 w2 w3 w4 w5 w6, C 32 [IV.dbox 68 0 [D.sl 1 z12 x13 e14, D.int IntKind.i64 i15, D.bool b16]] = some (IV.own w0 3 1 w1, [IV.dbox 68 0 [D.sl 1 w2 w3 w4, D.int IntKind.i64 w5, D.bool w6]]) ∧ condW (decide (List.length x27 + (0 + 1) ≤ 9223372036854775807)) (condW (decide ((List.length x27 + (0 + 1)) * 24 ≤ 140737488355328)) (Q (Out.norm [(0, IV.d (D.sl 4 z1 x2 e3)), (1, IV.d (D.str s4)), (4, IV.dbox 28 0 [D.int IntKind.i64 i5, D.int IntKind.i64 i6, D.int IntKind.i64 i7, D.int IntKind.i64 i8, D.int IntKind.i64 i9, D.int IntKind.i64 i10, D.int IntKind.i64 i11, D.sl 2 true [] [], D.sl 1 true [] [], D.sl 2 true [] []]), (6, IV.dbox 68 0 [D.sl 1 w2 w3 w4, D.int IntKind.i64 w5, D.bool w6]), (7, IV.ptr 28 0 [IV.d (D.int IntKind.i64 i17), IV.d (D.int IntKind.i64 i18), IV.d (D.int IntKind.i64 i19), IV.d (D.int IntKind.i64 i20), IV.d (D.int IntKind.i64 i21), IV.d (D.int IntKind.i64 i22), IV.d (D.int IntKind.i64 i23), IV.own z24 55 2 x25, IV.own (z26 && false) 48 1 (x27 ++ [D.sl 1 w0 w1 []]), IV.d (D.sl 2 true [] [])]), (8, IV.d (D.int IntKind.i64 i28)), (9, IV.d (D.int IntKind.i64 (IntKind.wrap IntKind.i64 (i29 + 1))))])) False) False)) (Q (Out.exit 0 [(0, IV.d (D.sl 4 z1 x2 e3)), (1, IV.d (D.str s4)), (4, IV.dbox 28 0 [D.int IntKind.i64 i5, D.int IntKind.i64 i6, D.int IntKind.i64 i7, D.int IntKind.i64 i8, D.int IntKind.i64 i9, D.int IntKind.i64 i10, D.int IntKind.i64 i11, D.sl 2 true [] [], D.sl 1 true [] [], D.sl 2 true [] []]), (6, IV.dbox 68 0 [D.sl 1 z12 x13 e14, D.int IntKind.i64 i15, D.bool b16]), (7, IV.ptr 28 0 [IV.d (D.int IntKind.i64 i17), IV.d (D.int IntKind.i64 i18), IV.d (D.int IntKind.i64 i19), IV.d (D.int IntKind.i64 i20), IV.d (D.int IntKind.i64 i21), IV.d (D.int IntKind.i64 i22), IV.d (D.int IntKind.i64 i23), IV.own z24 55 2 x25, IV.own z26 48 1 x27, IV.d (D.sl 2 true [] [])]), (8, IV.d (D.int IntKind.i64 i28)), (9, IV.d (D.int IntKind.i64 i29))]))) := by kernel_rfl
end Go.Proofs.YtjoibdmiolcodaaGreatDoor.Ab

/- Signatures, rows of terms, atoms: what may be, in plain lists. No program in sight; no condition. -/
set_option linter.unusedVariables false
set_option linter.unusedSimpArgs false
namespace Go.Qu
open Go Go.Ab

abbrev iI (n : Int) : IV := .d (.int .i64 n)
abbrev iB (b : Bool) : IV := .d (.bool b)
abbrev iS (z : Bool) (l : List Int) (e : List D) : IV := .d (.sl 1 z (ints l) e)

structure Sym where
  name : ByteArray
  kind : Int
  ar : Int
  wt : Int
def Sym.d (s : Sym) : D := .agg [.str s.name, .int .i64 s.kind, .int .i64 s.ar, .int .i64 s.wt]
def syms (l : List Sym) : List D := l.map Sym.d
abbrev iG (z : Bool) (l : List Sym) (e : List D) : IV := .d (.sl 4 z (syms l) e)
theorem syms_len (l : List Sym) : (syms l).length = l.length := by simp [syms]
theorem syms_at {l : List Sym} {i : Nat} {s : Sym} (h : l[i]? = some s) : (syms l)[i]? = some (.agg [.str s.name, .int .i64 s.kind, .int .i64 s.ar, .int .i64 s.wt]) := by
  simp [syms, h, Sym.d]
theorem bytes_len (b : ByteArray) : b.toList.length = b.size := by
  have h : ∀ (k i : Nat) (acc : List UInt8), b.size - i = k → (ByteArray.toList.loop b i acc).length = acc.length + k := by
    intro k
    induction k with
    | zero => intro i acc hk; unfold ByteArray.toList.loop; rw [if_neg (by omega)]; simp
    | succ k ih => intro i acc hk; unfold ByteArray.toList.loop; rw [if_pos (by omega), ih (i + 1) _ (by omega)]; simp; omega
  have := h b.size 0 [] rfl
  unfold ByteArray.toList
  rw [this]; simp
theorem wr1 {i n : Nat} (h : i < n) (hn : n ≤ 9223372036854775807) : IntKind.wrap .i64 ((i : Int) + 1) = ((i + 1 : Nat) : Int) := by
  rw [wr _ (by omega) (by omega)]; omega
theorem at_lt {α : Type} {l : List α} {i : Nat} (h : i < l.length) : ∃ s, l[i]? = some s := ⟨l[i], by simp [h]⟩
theorem lt_at {α : Type} {l : List α} {i : Nat} {s : α} (h : l[i]? = some s) : i < l.length := (List.getElem?_eq_some_iff.1 h).1

def smallB (c : Int) : Bool := decide (97 ≤ c) && decide (c ≤ 122)
def charB (c : Int) : Bool := smallB c || (decide (48 ≤ c) && decide (c ≤ 57))
def nameB (b : ByteArray) : Bool := decide (1 ≤ b.size) && decide (b.size ≤ 8) && smallB (byteAt b 0) && (List.range b.size).all fun i => charB (byteAt b i)
def numsB (s : Sym) : Bool := decide (0 ≤ s.kind) && decide (s.kind ≤ 2) && decide (0 ≤ s.ar) && decide (s.ar ≤ 3) && decide (1 ≤ s.wt) && decide (s.wt ≤ 20)
def symB (s : Sym) : Bool := nameB s.name && numsB s
def isN (n : ByteArray) (s : Sym) : Bool := s.name.toList == n.toList
def findN (l : List Sym) (n : ByteArray) : Int := match l.findIdx? (isN n) with | some i => i | none => -1
def eqSym (s : Sym) : Bool := (s.name.toList == [61]) && (s.kind == 0 && (s.ar == 2 && (s.wt == 1 && true)))
def sigAt (l : List Sym) (i : Nat) : Bool := match l[i]? with | some s => symB s && (findN l s.name == (i : Int)) | none => true
def sigB (l : List Sym) : Bool := decide (1 ≤ l.length) && decide (l.length ≤ 20) && (match l[0]? with | some s => eqSym s | none => false) && (List.range' 1 (l.length - 1)).all (sigAt l)
/-- What may be a signature. -/
structure SigOk (l : List Sym) : Prop where
  lo : 1 ≤ l.length
  hi : l.length ≤ 20
  nums : ∀ (i : Nat) s, l[i]? = some s → 0 ≤ s.kind ∧ s.kind ≤ 2 ∧ 0 ≤ s.ar ∧ s.ar ≤ 3 ∧ 1 ≤ s.wt ∧ s.wt ≤ 20
theorem sigOk {l : List Sym} (h : sigB l = true) : SigOk l := by
  unfold sigB at h
  simp only [Bool.and_eq_true, decide_eq_true_eq] at h
  obtain ⟨⟨⟨h1, h2⟩, h3⟩, h4⟩ := h
  refine ⟨h1, h2, fun i s hs => ?_⟩
  cases i with
  | zero =>
    rw [hs] at h3
    simp only [eqSym, Bool.and_eq_true, beq_iff_eq] at h3
    omega
  | succ i =>
    have hl := lt_at hs
    have h5 := List.all_eq_true.1 h4 (i + 1) (by rw [List.mem_range'_1]; omega)
    unfold sigAt at h5
    rw [hs] at h5
    simp only [symB, numsB, Bool.and_eq_true, decide_eq_true_eq] at h5
    omega
theorem findN_some {l : List Sym} {n : ByteArray} {j : Nat} {s : Sym} (hs : l[j]? = some s) (hq : isN n s = true) (hk : ∀ k, k < j → ∀ t, l[k]? = some t → isN n t = false) : findN l n = (j : Int) := by
  unfold findN
  have : l.findIdx? (isN n) = some j := by
    rw [List.findIdx?_eq_some_iff_getElem]
    have hl := lt_at hs
    refine ⟨hl, ?_, fun k hkj => ?_⟩
    · rw [List.getElem?_eq_getElem hl] at hs; simp at hs; rw [hs]; exact hq
    · have := hk k hkj l[k] (by simp)
      simpa using this
  rw [this]
theorem findN_none {l : List Sym} {n : ByteArray} (hk : ∀ k, k < l.length → ∀ t, l[k]? = some t → isN n t = false) : findN l n = -1 := by
  unfold findN
  have : l.findIdx? (isN n) = none := by
    rw [List.findIdx?_eq_none_iff]
    intro x hx
    obtain ⟨k, hk1, hk2⟩ := List.getElem_of_mem hx
    exact hk k hk1 x (by rw [List.getElem?_eq_getElem hk1, hk2])
  rw [this]

/-! ### Terms -/
/-- How many terms stand behind a code; none: it may not begin a term. -/
def arOf (g : List Sym) (c : Int) : Option Nat :=
  if c < 0 then (if -24 ≤ c then some 0 else none) else match g[c.toNat]? with
    | none => none
    | some s => if s.kind = 0 then none else some s.ar.toNat
/-- How many codes so many terms have. -/
def lenN (g : List Sym) : List Int → Nat → Option Nat
  | _, 0 => some 0
  | [], _ + 1 => none
  | c :: r, n + 1 => match arOf g c with
    | none => none
    | some k => (lenN g r (n + k)).map (· + 1)
theorem lenN_le {g : List Sym} : ∀ {r : List Int} {n k : Nat}, lenN g r n = some k → k ≤ r.length ∧ n ≤ k
  | r, 0, k, h => by cases r <;> (simp [lenN] at h; subst h; simp)
  | [], n + 1, k, h => by simp [lenN] at h
  | c :: r, n + 1, k, h => by
    unfold lenN at h
    split at h
    · cases h
    · rename_i a ha
      obtain ⟨m, hm, rfl⟩ := Option.map_eq_some_iff.1 h
      have := lenN_le hm
      simp; omega
theorem gi_drop {r : List Int} {i : Nat} (h : i < r.length) : r.drop i = gi r i :: r.drop (i + 1) := by
  rw [List.drop_eq_getElem_cons h]; simp [gi, h]
theorem drop_ge {r : List Int} {i : Nat} (h : ¬ i < r.length) : r.drop i = [] := List.drop_of_length_le (by omega)
theorem arOf_le {g : List Sym} (hg : SigOk g) {c : Int} {k : Nat} (h : arOf g c = some k) : k ≤ 3 := by
  unfold arOf at h
  split at h
  · split at h <;> simp at h; omega
  · split at h
    · cases h
    · rename_i s hs
      have := hg.nums _ _ hs
      split at h <;> simp at h; omega
def arV (g : List Sym) (c : Int) : Int := ((arOf g c).getD 0 : Nat)
theorem lenN_end {g : List Sym} {r : List Int} {i n : Nat} (h : ¬ i < r.length) (hn : 1 ≤ n) : lenN g (r.drop i) n = none := by
  rw [drop_ge h]
  obtain ⟨m, rfl⟩ : ∃ m, n = m + 1 := ⟨n - 1, by omega⟩
  rfl
theorem lenN_no {g : List Sym} {r : List Int} {i n : Nat} (h : i < r.length) (hn : 1 ≤ n) (ha : arOf g (gi r i) = none) : lenN g (r.drop i) n = none := by
  rw [gi_drop h]
  obtain ⟨m, rfl⟩ : ∃ m, n = m + 1 := ⟨n - 1, by omega⟩
  simp [lenN, ha]
theorem lenN_go {g : List Sym} {r : List Int} {i n k : Nat} (h : i < r.length) (hn : 1 ≤ n) (ha : arOf g (gi r i) = some k) : lenN g (r.drop i) n = (lenN g (r.drop (i + 1)) (n + k - 1)).map (· + 1) := by
  rw [gi_drop h]
  obtain ⟨m, rfl⟩ : ∃ m, n = m + 1 := ⟨n - 1, by omega⟩
  simp only [lenN, ha]
  rw [show m + 1 + k - 1 = m + k by omega]
/-- The place behind so many terms from a place on. -/
def skV (g : List Sym) (r : List Int) (i n : Nat) : Int := match lenN g (r.drop i) n with | some k => ((i + k : Nat) : Int) | none => 0
def skB (g : List Sym) (r : List Int) (i n : Nat) : Bool := (lenN g (r.drop i) n).isSome
def skR (g : List Sym) (r : List Int) (i n : Nat) : Int := match lenN g (r.drop i) n with | some k => ((i + k : Nat) : Int) | none => -1
/-- The terms of a row; none: it is no row of terms. -/
def parts (g : List Sym) (r : List Int) : Option (List (List Int)) :=
  if hr : r = [] then some [] else match h : lenN g r 1 with
    | none => none
    | some k => (parts g (r.drop k)).map (r.take k :: ·)
termination_by r.length
decreasing_by
  have := lenN_le h
  have : r.length ≠ 0 := fun e => hr (List.length_eq_zero_iff.1 e)
  simp; omega
theorem parts_nil (g : List Sym) : parts g [] = some [] := by rw [parts]; simp
theorem parts_none {g : List Sym} {r : List Int} (hr : r ≠ []) (h : lenN g r 1 = none) : parts g r = none := by
  rw [parts]; rw [dif_neg hr]; split
  · rfl
  · rename_i k hk; rw [h] at hk; cases hk
theorem parts_some {g : List Sym} {r : List Int} {k : Nat} (hr : r ≠ []) (h : lenN g r 1 = some k) : parts g r = (parts g (r.drop k)).map (r.take k :: ·) := by
  rw [parts]; rw [dif_neg hr]; split
  · rename_i hk; rw [h] at hk; cases hk
  · rename_i k' hk; rw [h] at hk; cases hk; rfl
/-- Where the terms begin, from a place on. -/
def begs (at_ : Nat) : List (List Int) → List Int
  | [] => []
  | t :: ts => (at_ : Int) :: begs (at_ + t.length) ts
/-- The terms of a row that may be (P2.1). -/
def rowP (g : List Sym) (r : List Int) : Option (List (List Int)) := if r.length ≤ 48 then parts g r else none
def atomB (g : List Sym) (a : List Int) : Bool :=
  match a with
  | [] => false
  | p :: r => if p < 0 then false else match g[p.toNat]? with
    | none => false
    | some s => s.kind == 0 && sigB g && (match rowP g r with | some ts => (ts.length : Int) == s.ar | none => false)
def rowB (g : List Sym) (r : List Int) : Bool := sigB g && (rowP g r).isSome
def begsM (g : List Sym) (r : List Int) : List Int := if sigB g = true then (match rowP g r with | some ts => begs 0 ts | none => []) else []
theorem begs_len : ∀ (ts : List (List Int)) (i : Nat), (begs i ts).length = ts.length
  | [], i => rfl
  | t :: ts, i => by simp [begs, begs_len ts]
theorem ints_nil : ints [] = [] := rfl
theorem ints_cons (x : Int) (l : List Int) : ints (x :: l) = .int .i64 x :: ints l := rfl
/-- Numbers that are not too many. -/
def Len (l : List Int) : Prop := l.length * 8 ≤ 140737488351232
theorem Len.lt {l : List Int} (h : Len l) : l.length < 20000000000000 := by unfold Len at h; omega

/-! ### Rows of rows -/
structure Row where
  z : Bool
  l : List Int
  e : List D
def Row.d (r : Row) : D := .sl 1 r.z (ints r.l) r.e
def rws (rs : List Row) : List D := rs.map Row.d
abbrev iR (z : Bool) (rs : List Row) (e : List D) : IV := .d (.sl 1 z (rws rs) e)
theorem rws_len (l : List Row) : (rws l).length = l.length := by simp [rws]
theorem rws_at {l : List Row} {i : Nat} {s : Row} (h : l[i]? = some s) : (rws l)[i]? = some (.sl 1 s.z (ints s.l) s.e) := by
  simp [rws, h, Row.d]
theorem rws_nil : rws [] = [] := rfl
theorem rws_cons (x : Row) (l : List Row) : rws (x :: l) = .sl 1 x.z (ints x.l) x.e :: rws l := rfl
theorem rws_append (l m : List Row) : rws (l ++ m) = rws l ++ rws m := by simp [rws]
theorem ints_ext {l m : List Int} (h : l.length = m.length) (h2 : ∀ i, i < l.length → gi l i = gi m i) : l = m := by
  refine List.ext_getElem h (fun i h3 h4 => ?_)
  have := h2 i h3
  simpa [gi, h3, h4] using this
end Go.Qu

/- Signatures, rows of terms, atoms: what the program's and the reference's functions hand back. For every input; no condition. -/
set_option linter.unusedVariables false
set_option linter.unusedSimpArgs false
set_option maxRecDepth 100000
namespace Go.Proofs.YtjoibdmiolcodaaGreatDoor.Ab
open Go Go.Ab Go.Qu Go.Proofs
attribute [local simp] and_assoc
noncomputable abbrev C : Caller := Go.Ab.W F
theorem wfn {f : FuncId} {d : FnD} {args : List IV} {r : IV × List IV} {lk : List Nat} (h : codeOf code f = some d) (hl : lkFrom 0 args = lk) (h2 : evFnJ F (Go.Ab.W F) (JW F d lk) d args = some r) (hp : F.prim f = none := by rfl) : C f args = some r := W_fn hp h (by rw [hl]; exact h2)
/-! ### Signatures -/
@[simp] theorem w_small (c : Int) : C 94 [.d (.int .u8 c)] = some (iB (smallB c), [.d (.int .u8 c)]) := by
  refine wfn (lk := []) rfl rfl (fnW_way (q94 _ _ c _) ?_)
  by_cases h1 : 97 ≤ c <;> by_cases h2 : c ≤ 122 <;> simp [h1, h2, smallB]
@[simp] theorem w_called (s : ByteArray) : C 76 [.d (.str s)] = some (iB (nameB s), [.d (.str s)]) := by
  refine wfn (lk := []) rfl rfl (fnW_way (q76 _ _ s _) ?_)
  have hl := fun (h8 : s.size ≤ 8) => blk_all (F := F) (d := d76) (lk := []) (p := [1,1,0,1,0,0]) (p0 := [1,1,0,1]) (by kernel_rfl) (n := s.size) (id := 0) (st := fun i => [(0, .d (.str s)), (18, iI s.size), (19, iI i)]) (q := fun i => charB (byteAt s i)) (rt := [(2, iB false)]) (e := [(0, .d (.str s)), (18, iI s.size), (19, iI s.size)])
    (fun i hi hq => by
      refine wpQ_way (q76_l0a _ _ s _ i _) ?_
      simp only [charB, Bool.or_eq_true, Bool.and_eq_true, decide_eq_true_eq] at hq
      simp [wr1 hi (by omega), hi]
      intro h; simpa [h] using hq)
    (fun i hi hq => by
      refine wpQ_way (q76_l0a _ _ s _ i _) ?_
      simp [charB] at hq
      simp [-getElem?_pos, and_assoc, wr1 hi (by omega), hi, hq.1]
      omega)
    (wpQ_way (q76_l0a _ _ s _ s.size _) (by simp)) 0 (Nat.zero_le _)
  by_cases h0 : s.size = 0
  · have : s.toList = [] := List.length_eq_zero_iff.1 (by rw [bytes_len, h0])
    simp [this, nameB, h0]
  have h1 : ¬ s.toList = [] := fun e => h0 (by rw [← bytes_len, e]; rfl)
  by_cases h8 : s.size ≤ 8
  rotate_left
  · simp [h1, nameB, h8]; omega
  by_cases hs : smallB (byteAt s 0) = true
  rotate_left
  · have hs' : smallB (byteAt s 0) = false := by simpa using hs
    simp [h1, nameB, hs']; omega
  rcases hl h8 with ⟨h2, h3⟩ | ⟨⟨j, h2, h4, h5⟩, h3⟩
  · have h6 : nameB s = true := by
      simp only [nameB, Bool.and_eq_true, decide_eq_true_eq, hs, and_true, List.all_eq_true, List.mem_range]
      exact ⟨⟨by omega, h8⟩, fun j hj => h2 j (Nat.zero_le _) hj⟩
    simp at h3
    simp [h1, hs, h3, h6]
    omega
  · have h6 : nameB s = false := by
      simp only [nameB, Bool.and_eq_false_iff]
      right
      rw [List.all_eq_false]
      exact ⟨j, List.mem_range.2 h4, by simp [h5]⟩
    simp at h3
    simp [h1, hs, h3, h6]
    omega
@[simp] theorem w_symmay (s : Sym) : C 62 [.d (.agg [.str s.name, .int .i64 s.kind, .int .i64 s.ar, .int .i64 s.wt])] = some (iB (symB s), [.d (.agg [.str s.name, .int .i64 s.kind, .int .i64 s.ar, .int .i64 s.wt])]) := by
  refine wfn (lk := []) rfl rfl (fnW_way (q62 _ _ s.name s.kind s.ar s.wt _) ?_)
  cases hn : nameB s.name <;> simp [hn, symB, numsB]
  by_cases h1 : 0 ≤ s.kind <;> by_cases h2 : s.kind ≤ 2 <;> by_cases h3 : 0 ≤ s.ar <;> by_cases h4 : s.ar ≤ 3 <;> by_cases h5 : 1 ≤ s.wt <;> by_cases h6 : s.wt ≤ 20 <;> simp [h1, h2, h3, h4, h5, h6] <;> omega
theorem w_find {g : List Sym} (hg : g.length ≤ 20) (z : Bool) (e : List D) (n : ByteArray) : C 63 [iG z g e, .d (.str n)] = some (iI (findN g n), [iG z g e, .d (.str n)]) := by
  refine wfn (lk := []) rfl rfl (fnW_way (q63 _ _ z (syms g) e n _) ?_)
  have hl := blk_find (F := F) (d := d63) (lk := []) (p := [1,0,1,0,0]) (p0 := [1,0,1]) (by kernel_rfl) (n := g.length) (id := 0) (st := fun i => [(0, iG z g e), (1, .d (.str n)), (7, iI g.length), (8, iI i)]) (q := fun i => match g[i]? with | some s => isN n s | none => false) (rt := fun i => [(4, iI i)]) (e := [(0, iG z g e), (1, .d (.str n)), (7, iI g.length), (8, iI g.length)])
    (fun i hi hq => by
      refine wpQ_way (q63_l0a _ _ z (syms g) e n _ i _) ?_
      obtain ⟨s, hs⟩ := at_lt hi
      simp [hs, isN] at hq
      simp [-getElem?_pos, and_assoc, wr1 hi (by omega), hi, syms_at hs, hq])
    (fun i hi hq => by
      refine wpQ_way (q63_l0a _ _ z (syms g) e n _ i _) ?_
      obtain ⟨s, hs⟩ := at_lt hi
      simp [hs, isN] at hq
      simp [-getElem?_pos, and_assoc, wr1 hi (by omega), hi, syms_at hs, hq])
    (wpQ_way (q63_l0a _ _ z (syms g) e n _ g.length _) (by simp)) 0 (Nat.zero_le _)
  rcases hl with ⟨h2, h3⟩ | ⟨j, h1, h2, h4, h5, h3⟩
  · rw [findN_none (fun k hk t ht => by have := h2 k (Nat.zero_le _) hk; rw [ht] at this; exact this)]
    simp at h3
    simp [syms_len, h3]
  · obtain ⟨s, hs⟩ := at_lt h2
    rw [findN_some hs (by rw [hs] at h4; exact h4) (fun k hk t ht => by have := h5 k (Nat.zero_le _) hk; rw [ht] at this; exact this)]
    simp at h3
    simp [syms_len, h3]
theorem w_may (z : Bool) (g : List Sym) (e : List D) : C 44 [iG z g e] = some (iB (sigB g), [iG z g e]) := by
  refine wfn (lk := []) rfl rfl (fnW_way (q44 _ _ z (syms g) e _) ?_)
  by_cases h1 : 1 ≤ g.length
  rotate_left
  · simp [syms_len, sigB, h1]; omega
  by_cases h20 : g.length ≤ 20
  rotate_left
  · simp [syms_len, sigB, h20]; omega
  obtain ⟨s0, hs0⟩ := at_lt (show 0 < g.length by omega)
  have e1 : ¬ ((g.length : Int) < 1) := by omega
  have e2 : ¬ (20 < (g.length : Int)) := by omega
  have hl := blk_all (F := F) (d := d44) (lk := []) (p := [1,1,0,1,0,0]) (p0 := [1,1,0,1]) (by kernel_rfl) (n := g.length) (id := 0) (st := fun i => [(0, iG z g e), (3, iI i)]) (q := sigAt g) (rt := [(2, iB false)]) (e := [(0, iG z g e), (3, iI g.length)])
    (fun i hi hq => by
      refine wpQ_way (q44_l0a _ _ z (syms g) e i _) ?_
      obtain ⟨s, hs⟩ := at_lt hi
      simp [sigAt, hs] at hq
      simp [-getElem?_pos, and_assoc, wr1 hi (by omega), hi, syms_len, syms_at hs, hq, w_find h20])
    (fun i hi hq => by
      refine wpQ_way (q44_l0a _ _ z (syms g) e i _) ?_
      obtain ⟨s, hs⟩ := at_lt hi
      simp [sigAt, hs] at hq
      cases hm : symB s
      · simp [-getElem?_pos, and_assoc, wr1 hi (by omega), hi, syms_len, syms_at hs, hm]
      · simp [-getElem?_pos, and_assoc, wr1 hi (by omega), hi, syms_len, syms_at hs, hm, w_find h20, hq hm])
    (wpQ_way (q44_l0a _ _ z (syms g) e g.length _) (by simp [syms_len])) 1 h1
  have e0 : "=".toUTF8.toList = [61] := by decide +kernel
  have hq : (s0.name.toList == "=".toUTF8.toList && (s0.kind == 0 && (s0.ar == 2 && (s0.wt == 1 && true)))) = eqSym s0 := by rw [e0]; rfl
  simp only [syms_len, syms_at hs0, condW_d, e1, e2, if_false, gt_iff_lt]
  simp only [Option.some.injEq, D.agg.injEq, List.cons.injEq, D.str.injEq, D.int.injEq, true_and, and_true]
  refine ⟨s0.name, s0.kind, s0.ar, s0.wt, ⟨rfl, rfl, rfl, rfl⟩, ?_⟩
  rw [hq]
  cases h0 : eqSym s0
  · simp [sigB, h1, h20, hs0, h0]
  rcases hl with ⟨h2, h3⟩ | ⟨⟨j, h2, h4, h5⟩, h3⟩
  · have h6 : sigB g = true := by
      simp only [sigB, h1, h20, hs0, h0, Bool.and_eq_true, decide_eq_true_eq, List.all_eq_true, List.mem_range'_1, true_and]
      exact fun j hj => h2 j hj.1 (by omega)
    simp at h3
    simp [h3, h6]
  · have h6 : sigB g = false := by
      simp only [sigB, Bool.and_eq_false_iff]
      right
      rw [List.all_eq_false]
      exact ⟨j, by rw [List.mem_range'_1]; omega, by simp [h5]⟩
    simp at h3
    simp [h3, h6]
/-! ### The reference's -/
@[simp] theorem w_rsmall (c : Int) : C 75 [.d (.int .u8 c)] = some (iB (smallB c), [.d (.int .u8 c)]) := by
  refine wfn (lk := []) rfl rfl (fnW_way (q75 _ _ c _) ?_)
  by_cases h1 : 97 ≤ c <;> by_cases h2 : c ≤ 122 <;> simp [h1, h2, smallB]
@[simp] theorem w_rsymmay (s : Sym) : C 58 [.d (.agg [.str s.name, .int .i64 s.kind, .int .i64 s.ar, .int .i64 s.wt])] = some (iB (symB s), [.d (.agg [.str s.name, .int .i64 s.kind, .int .i64 s.ar, .int .i64 s.wt])]) := by
  refine wfn (lk := []) rfl rfl (fnW_way (q58 _ _ s.name s.kind s.ar s.wt _) ?_)
  have hl := fun (h8 : s.name.size ≤ 8) => blk_all (F := F) (d := d58) (lk := []) (p := [1,1,0,1,0,0]) (p0 := [1,1,0,1]) (by kernel_rfl) (n := s.name.size) (id := 0) (st := fun i => [(1, .dbox 84 0 [.str s.name, .int .i64 s.kind, .int .i64 s.ar, .int .i64 s.wt]), (3, iI i)]) (q := fun i => charB (byteAt s.name i)) (rt := [(2, iB false)]) (e := [(1, .dbox 84 0 [.str s.name, .int .i64 s.kind, .int .i64 s.ar, .int .i64 s.wt]), (3, iI s.name.size)])
    (fun i hi hq => by
      refine wpQ_way (q58_l0a _ _ s.name s.kind s.ar s.wt i _) ?_
      simp only [charB, Bool.or_eq_true, Bool.and_eq_true, decide_eq_true_eq] at hq
      simp [wr1 hi (by omega), hi]
      intro h; simpa [h] using hq)
    (fun i hi hq => by
      refine wpQ_way (q58_l0a _ _ s.name s.kind s.ar s.wt i _) ?_
      simp [charB] at hq
      simp [-getElem?_pos, and_assoc, wr1 hi (by omega), hi, hq.1]
      omega)
    (wpQ_way (q58_l0a _ _ s.name s.kind s.ar s.wt s.name.size _) (by simp)) 0 (Nat.zero_le _)
  by_cases h0 : s.name.size = 0
  · simp [symB, nameB, h0]
  by_cases h8 : s.name.size ≤ 8
  rotate_left
  · simp [symB, nameB, h8]; omega
  by_cases hs : smallB (byteAt s.name 0) = true
  rotate_left
  · have hs' : smallB (byteAt s.name 0) = false := by simpa using hs
    simp [symB, nameB, hs']; omega
  have e1 : ¬ ((s.name.size : Int) < 1) := by omega
  have e2 : ¬ (8 < (s.name.size : Int)) := by omega
  have e3 : 0 < s.name.size := by omega
  rcases hl h8 with ⟨h2, h3⟩ | ⟨⟨j, h2, h4, h5⟩, h3⟩
  · have h6 : nameB s.name = true := by
      simp only [nameB, Bool.and_eq_true, decide_eq_true_eq, hs, and_true, List.all_eq_true, List.mem_range]
      exact ⟨⟨by omega, h8⟩, fun j hj => h2 j (Nat.zero_le _) hj⟩
    simp at h3
    simp [e1, e2, e3, hs, h3, h6, symB, numsB]
    by_cases h1 : 0 ≤ s.kind <;> by_cases h2 : s.kind ≤ 2 <;> by_cases h3 : 0 ≤ s.ar <;> by_cases h4 : s.ar ≤ 3 <;> by_cases h5 : 1 ≤ s.wt <;> by_cases h6 : s.wt ≤ 20 <;> simp [h1, h2, h3, h4, h5, h6] <;> omega
  · have h6 : nameB s.name = false := by
      simp only [nameB, Bool.and_eq_false_iff]
      right
      rw [List.all_eq_false]
      exact ⟨j, List.mem_range.2 h4, by simp [h5]⟩
    simp at h3
    simp [e1, e2, e3, hs, h3, h6, symB]
theorem w_code {g : List Sym} (hg : g.length ≤ 20) (z : Bool) (e : List D) (n : ByteArray) : C 59 [iG z g e, .d (.str n)] = some (iI (findN g n), [iG z g e, .d (.str n)]) := by
  refine wfn (lk := []) rfl rfl (fnW_way (q59 _ _ z (syms g) e n _) ?_)
  have hl := blk_find (F := F) (d := d59) (lk := []) (p := [1,0,1,0,0]) (p0 := [1,0,1]) (by kernel_rfl) (n := g.length) (id := 0) (st := fun i => [(0, iG z g e), (1, .d (.str n)), (5, iI i)]) (q := fun i => match g[i]? with | some s => isN n s | none => false) (rt := fun i => [(4, iI i)]) (e := [(0, iG z g e), (1, .d (.str n)), (5, iI g.length)])
    (fun i hi hq => by
      refine wpQ_way (q59_l0a _ _ z (syms g) e n i _) ?_
      obtain ⟨s, hs⟩ := at_lt hi
      simp [hs, isN] at hq
      simp [-getElem?_pos, and_assoc, wr1 hi (by omega), hi, syms_len, syms_at hs, hq])
    (fun i hi hq => by
      refine wpQ_way (q59_l0a _ _ z (syms g) e n i _) ?_
      obtain ⟨s, hs⟩ := at_lt hi
      simp [hs, isN] at hq
      simp [-getElem?_pos, and_assoc, wr1 hi (by omega), hi, syms_len, syms_at hs, hq])
    (wpQ_way (q59_l0a _ _ z (syms g) e n g.length _) (by simp [syms_len])) 0 (Nat.zero_le _)
  rcases hl with ⟨h2, h3⟩ | ⟨j, h1, h2, h4, h5, h3⟩
  · rw [findN_none (fun k hk t ht => by have := h2 k (Nat.zero_le _) hk; rw [ht] at this; exact this)]
    simp at h3
    simp [syms_len, h3]
  · obtain ⟨s, hs⟩ := at_lt h2
    rw [findN_some hs (by rw [hs] at h4; exact h4) (fun k hk t ht => by have := h5 k (Nat.zero_le _) hk; rw [ht] at this; exact this)]
    simp at h3
    simp [syms_len, h3]
theorem w_rmay (z : Bool) (g : List Sym) (e : List D) : C 39 [iG z g e] = some (iB (sigB g), [iG z g e]) := by
  refine wfn (lk := []) rfl rfl (fnW_way (q39 _ _ z (syms g) e _) ?_)
  by_cases h1 : 1 ≤ g.length
  rotate_left
  · simp [syms_len, sigB, h1]; omega
  by_cases h20 : g.length ≤ 20
  rotate_left
  · simp [syms_len, sigB, h20]; omega
  obtain ⟨s0, hs0⟩ := at_lt (show 0 < g.length by omega)
  have e1 : ¬ ((g.length : Int) < 1) := by omega
  have e2 : ¬ (20 < (g.length : Int)) := by omega
  have hl := blk_all (F := F) (d := d39) (lk := []) (p := [1,1,0,1,0,0]) (p0 := [1,1,0,1]) (by kernel_rfl) (n := g.length) (id := 0) (st := fun i => [(0, iG z g e), (3, iI i)]) (q := sigAt g) (rt := [(2, iB false)]) (e := [(0, iG z g e), (3, iI g.length)])
    (fun i hi hq => by
      refine wpQ_way (q39_l0a _ _ z (syms g) e i _) ?_
      obtain ⟨s, hs⟩ := at_lt hi
      simp [sigAt, hs] at hq
      simp [-getElem?_pos, and_assoc, wr1 hi (by omega), hi, syms_len, syms_at hs, hq, w_code h20])
    (fun i hi hq => by
      refine wpQ_way (q39_l0a _ _ z (syms g) e i _) ?_
      obtain ⟨s, hs⟩ := at_lt hi
      simp [sigAt, hs] at hq
      cases hm : symB s
      · simp [-getElem?_pos, and_assoc, wr1 hi (by omega), hi, syms_len, syms_at hs, hm]
      · simp [-getElem?_pos, and_assoc, wr1 hi (by omega), hi, syms_len, syms_at hs, hm, w_code h20, hq hm])
    (wpQ_way (q39_l0a _ _ z (syms g) e g.length _) (by simp [syms_len])) 1 h1
  have e0 : ByteArray.toList { data := #[61] } = [61] := by decide +kernel
  have hq : (s0.name.toList == ByteArray.toList { data := #[61] } && (s0.kind == 0 && (s0.ar == 2 && (s0.wt == 1 && true)))) = eqSym s0 := by rw [e0]; rfl
  simp only [syms_len, syms_at hs0, condW_d, e1, e2, if_false, gt_iff_lt]
  simp only [Option.some.injEq, D.agg.injEq, List.cons.injEq, D.str.injEq, D.int.injEq, true_and, and_true]
  refine ⟨s0.name, s0.kind, s0.ar, s0.wt, ⟨rfl, rfl, rfl, rfl⟩, ?_⟩
  rw [hq]
  cases h0 : eqSym s0
  · simp [sigB, h1, h20, hs0, h0]
  rcases hl with ⟨h2, h3⟩ | ⟨⟨j, h2, h4, h5⟩, h3⟩
  · have h6 : sigB g = true := by
      simp only [sigB, h1, h20, hs0, h0, Bool.and_eq_true, decide_eq_true_eq, List.all_eq_true, List.mem_range'_1, true_and]
      exact fun j hj => h2 j hj.1 (by omega)
    simp at h3
    simp [h3, h6]
  · have h6 : sigB g = false := by
      simp only [sigB, Bool.and_eq_false_iff]
      right
      rw [List.all_eq_false]
      exact ⟨j, by rw [List.mem_range'_1]; omega, by simp [h5]⟩
    simp at h3
    simp [h3, h6]
end Go.Proofs.YtjoibdmiolcodaaGreatDoor.Ab

/- Rows of terms, atoms: what the program's and the reference's functions hand back. For every input; no condition. -/
set_option linter.unusedVariables false
set_option linter.unusedSimpArgs false
set_option maxRecDepth 100000
namespace Go.Proofs.YtjoibdmiolcodaaGreatDoor.Ab
open Go Go.Ab Go.Qu Go.Proofs
attribute [local simp] and_assoc
theorem w_number (c : Int) : C 116 [iI c] = some (iI (IntKind.wrap .i64 (-1 - c)), [iI c]) :=
  wfn (lk := []) rfl rfl (fnW_way (q116 _ _ c _) (by simp))
theorem w_number23 : C 116 [iI 23] = some (iI (-24), [iI 23]) := by rw [w_number, wr _ (by omega) (by omega)]; rfl
theorem w_args {g : List Sym} (hg : SigOk g) (z : Bool) (e : List D) (c : Int) : C 109 [iG z g e, iI c] = some (.tup [iI (arV g c), iB (arOf g c).isSome], [iG z g e, iI c]) := by
  refine wfn (lk := []) rfl rfl (fnW_way (q109 _ _ z (syms g) e c _) ?_)
  by_cases h0 : c < 0
  · by_cases h1 : -24 ≤ c
    · simp [h0, h1, arV, arOf, w_number23]
    · simp [h0, h1, arV, arOf, w_number23]; omega
  by_cases h2 : c < g.length
  · obtain ⟨s, hs⟩ := at_lt (l := g) (i := c.toNat) (by omega)
    have hn := hg.nums _ _ hs
    have h3 : 0 ≤ c := by omega
    have h4 : ¬ (g.length : Int) ≤ c := by omega
    by_cases hk : s.kind = 0
    · simp [-getElem?_pos, h0, h2, h3, h4, syms_len, syms_at hs, arV, arOf, hs, hk]
    · simp [-getElem?_pos, h0, h2, h3, h4, syms_len, syms_at hs, arV, arOf, hs, hk]; omega
  · have hs : g[c.toNat]? = none := List.getElem?_eq_none (by omega)
    have h4 : (g.length : Int) ≤ c := by omega
    simp [h0, h4, syms_len, arV, arOf, hs]
theorem l_skip {g : List Sym} (hg : SigOk g) (z z' : Bool) (e e' : List D) {r : List Int} (hr : r.length < 20000000000000) : ∀ x : Nat × Nat, (1 ≤ x.2 ∧ x.2 ≤ 3 * x.1 + 1 ∧ x.1 ≤ r.length) →
    ∃ o, evG (JW F d95 []) d95 [1, 0] 0 [(0, iG z g e), (1, iS z' r e'), (2, iI x.1), (8, iI x.2)] = some o ∧ o = .ret [(6, iI (skV g r x.1 x.2)), (7, iB (skB g r x.1 x.2))] :=
  label_rule (F := F) (d := d95) (lk := []) (p := [1, 0]) (fun _ => 0) (fun (x : Nat × Nat) => [(0, iG z g e), (1, iS z' r e'), (2, iI x.1), (8, iI x.2)]) _ (fun x => r.length - x.1) (fun x o => o = .ret [(6, iI (skV g r x.1 x.2)), (7, iB (skB g r x.1 x.2))]) (fun _ _ => by decide +kernel) (fun x hx => by
    obtain ⟨i, n⟩ := x
    obtain ⟨h1, h2, h3⟩ := hx
    dsimp only at h1 h2 h3 ⊢
    by_cases hi : i < r.length
    · have hi' : ¬ (r.length : Int) ≤ i := by omega
      cases ha : arOf g (gi r i) with
      | none =>
        refine .inr ⟨_, wpR_way (q95_l1000000a _ _ z (syms g) e z' (ints r) e' i n _) ?_, rfl, rfl⟩
        simp [-getElem?_pos, ints_len, hi', Go.Ab.ints_at hi, w_args hg, ha, skV, skB, lenN_no hi h1 ha]
      | some k =>
        have hk := arOf_le hg ha
        have hw1 : IntKind.wrap .i64 ((k : Int) - 1) = (k : Int) - 1 := wr _ (by omega) (by omega)
        have hw2 : IntKind.wrap .i64 ((n : Int) + ((k : Int) - 1)) = ((n + k - 1 : Nat) : Int) := by rw [wr _ (by omega) (by omega)]; omega
        have hw3 := wr1 hi (by omega)
        by_cases hn : 0 < n + k - 1
        · refine .inl ⟨(i + 1, n + k - 1), wpR_way (q95_l1000000a _ _ z (syms g) e z' (ints r) e' i n _) ?_, ⟨by dsimp only; omega, by dsimp only; omega, by dsimp only; omega⟩, by dsimp only; omega, fun o ho => ?_⟩
          · simp [-getElem?_pos, -Int.natCast_add, ints_len, hi', Go.Ab.ints_at hi, w_args hg, ha, arV, hw1, hw2, hw3, hn]
          · rw [ho]
            simp only [skV, skB, lenN_go hi h1 ha]
            cases lenN g (r.drop (i + 1)) (n + k - 1) <;> simp; omega
        · refine .inr ⟨_, wpR_way (q95_l1000000a _ _ z (syms g) e z' (ints r) e' i n _) ?_, rfl, rfl⟩
          have hz : n + k - 1 = 0 := by omega
          have hl : lenN g (r.drop i) n = some 1 := by rw [lenN_go hi h1 ha, hz]; simp [lenN]
          simp [-getElem?_pos, -Int.natCast_add, ints_len, hi', Go.Ab.ints_at hi, w_args hg, ha, arV, hw1, hw2, hw3, hz, skV, skB, hl]
    · have hi' : (r.length : Int) ≤ i := by omega
      refine .inr ⟨_, wpR_way (q95_l1000000a _ _ z (syms g) e z' (ints r) e' i n _) ?_, rfl, rfl⟩
      simp [ints_len, hi', skV, skB, lenN_end hi h1])
theorem w_skip {g : List Sym} (hg : SigOk g) (z z' : Bool) (e e' : List D) {r : List Int} (hr : r.length < 20000000000000) (i : Nat) : C 95 [iG z g e, iS z' r e', iI i] = some (.tup [iI (skV g r i 1), iB (skB g r i 1)], [iG z g e, iS z' r e', iI i]) := by
  refine wfn (lk := []) rfl rfl (fnW_way (q95 _ _ z (syms g) e z' (ints r) e' i _) ?_)
  by_cases hi : i < r.length
  · have hi' : ¬ (r.length : Int) ≤ i := by omega
    cases ha : arOf g (gi r i) with
    | none => simp [-getElem?_pos, ints_len, hi', Go.Ab.ints_at hi, w_args hg, ha, skV, skB, lenN_no hi (Nat.le_refl 1) ha]
    | some k =>
      have hk := arOf_le hg ha
      have hw1 : IntKind.wrap .i64 ((k : Int) - 1) = (k : Int) - 1 := wr _ (by omega) (by omega)
      have hw2 : IntKind.wrap .i64 (1 + ((k : Int) - 1)) = (k : Int) := by rw [wr _ (by omega) (by omega)]; omega
      have hw3 := wr1 hi (by omega)
      by_cases hn : 0 < k
      · obtain ⟨o, h1, rfl⟩ := l_skip hg z z' e e' hr (i + 1, k) ⟨hn, by dsimp only; omega, hi⟩
        have hl := lenN_go hi (Nat.le_refl 1) ha
        rw [show 1 + k - 1 = k by omega] at hl
        have e1 : skV g r i 1 = skV g r (i + 1) k := by
          simp only [skV, hl]
          cases lenN g (r.drop (i + 1)) k <;> simp; omega
        have e2 : skB g r i 1 = skB g r (i + 1) k := by simp [skB, hl]
        simp [-getElem?_pos, -Int.natCast_add, ints_len, hi', Go.Ab.ints_at hi, w_args hg, ha, arV, hw1, hw2, hw3, hn, h1, e1, e2]
      · have hz : k = 0 := by omega
        subst hz
        have hl : lenN g (r.drop i) 1 = some 1 := by rw [lenN_go hi (Nat.le_refl 1) ha]; simp [lenN]
        have hw0 : IntKind.wrap .i64 (-1) = -1 := wr _ (by omega) (by omega)
        have hw4 : IntKind.wrap .i64 0 = 0 := wr _ (by omega) (by omega)
        simp [-getElem?_pos, -Int.natCast_add, ints_len, hi', Go.Ab.ints_at hi, w_args hg, ha, arV, hw0, hw4, hw3, skV, skB, hl]
  · have hi' : (r.length : Int) ≤ i := by omega
    simp [ints_len, hi', skV, skB, lenN_end hi (Nat.le_refl 1)]
theorem l_begins {g : List Sym} (hg : sigB g = true) (z z' : Bool) (e e' : List D) {r : List Int} (hr : r.length ≤ 48) : ∀ x : List Int × Nat, (x.1.length ≤ x.2 ∧ x.2 ≤ r.length ∧ x.1 ≠ []) →
    ∃ o, evG (JW F d78 []) d78 [1, 0] 0 [(0, iG z g e), (1, iS z' r e'), (6, .own false 3 1 (ints x.1)), (7, iI x.2)] = some o ∧
      match parts g (r.drop x.2) with | some ts => o = .ret [(4, .own false 3 1 (ints (x.1 ++ begs x.2 ts))), (5, iB true)] | none => o = .ret [(4, .own true 3 1 []), (5, iB false)] :=
  label_rule (F := F) (d := d78) (lk := []) (p := [1, 0]) (fun _ => 0) (fun (x : List Int × Nat) => [(0, iG z g e), (1, iS z' r e'), (6, .own false 3 1 (ints x.1)), (7, iI x.2)]) _ (fun x => r.length - x.2) (fun x o => match parts g (r.drop x.2) with | some ts => o = .ret [(4, .own false 3 1 (ints (x.1 ++ begs x.2 ts))), (5, iB true)] | none => o = .ret [(4, .own true 3 1 []), (5, iB false)]) (fun _ _ => by decide +kernel) (fun x hx => by
    obtain ⟨acc, i⟩ := x
    obtain ⟨h1, h2, h3⟩ := hx
    dsimp only at h1 h2 h3 ⊢
    by_cases hi : i = r.length
    · refine .inr ⟨.ret [(4, .own false 3 1 (ints acc)), (5, iB true)], wpR_way (q78_l1000000a _ _ z (syms g) e z' (ints r) e' false (ints acc) i _) ?_, rfl, ?_⟩
      · simp [ints_len, hi]
      · rw [List.drop_of_length_le (by omega), parts_nil]; simp [begs]
    · have hne : r.drop i ≠ [] := by simp; omega
      have hsk := w_skip (sigOk hg) z z' e e' (r := r) (by omega) i
      have hi' : ¬ ((i : Int) = r.length) := by omega
      cases hl : lenN g (r.drop i) 1 with
      | none =>
        refine .inr ⟨.ret [(4, .own true 3 1 []), (5, iB false)], wpR_way (q78_l1000000a _ _ z (syms g) e z' (ints r) e' false (ints acc) i _) ?_, rfl, ?_⟩
        · simp [ints_len, hi', hsk, skV, skB, hl]
        · rw [parts_none hne hl]
      | some k =>
        have hle := lenN_le hl
        simp at hle
        refine .inl ⟨(acc ++ [(i : Int)], i + k), wpR_way (q78_l1000000a _ _ z (syms g) e z' (ints r) e' false (ints acc) i _) ?_, ⟨by simp; omega, by dsimp only; omega, by simp⟩, by dsimp only; omega, fun o ho => ?_⟩
        · simp [ints_len, hi', hsk, skV, skB, hl, ints_append, ints_cons, ints_nil]
          omega
        · rw [parts_some hne hl]
          rw [List.drop_drop]
          dsimp only at ho
          cases hp : parts g (r.drop (i + k)) with
          | none => rw [hp] at ho; exact ho
          | some ts =>
            rw [hp] at ho
            simp only [Option.map_some] at ho ⊢
            rw [ho]
            simp [begs, List.length_take]
            rw [show min k (r.length - i) = k by omega])
theorem w_begins (z z' : Bool) (g : List Sym) (e e' : List D) (r : List Int) : C 78 [iG z g e, iS z' r e'] = some (.tup [.own (begsM g r).isEmpty 3 1 (ints (begsM g r)), iB (rowB g r)], [iG z g e, iS z' r e']) := by
  refine wfn (lk := []) rfl rfl (fnW_way (q78 _ _ z (syms g) e z' (ints r) e' _) ?_)
  have hm := w_may z g e
  cases hg : sigB g
  · simp [hm, hg, begsM, rowB, ints_nil]
  by_cases hr : r.length ≤ 48
  rotate_left
  · have e1 : 48 < (r.length : Int) := by omega
    simp [hm, hg, begsM, rowB, ints_nil, rowP, hr, e1, ints_len]
  have e1 : ¬ 48 < (r.length : Int) := by omega
  by_cases h0 : r = []
  · subst h0
    simp [hm, hg, begsM, rowB, ints_nil, rowP, parts_nil, begs]
  have h0' : ¬ r.length = 0 := fun e => h0 (List.length_eq_zero_iff.1 e)
  have h0'' : ¬ ((0 : Int) = r.length) := by omega
  have hsk : C 95 [iG z g e, iS z' r e', iI 0] = some (.tup [iI (skV g r 0 1), iB (skB g r 0 1)], [iG z g e, iS z' r e', iI 0]) := w_skip (sigOk hg) z z' e e' (r := r) (by omega) 0
  cases hl : lenN g r 1 with
  | none =>
    simp [hm, hg, begsM, rowB, ints_nil, rowP, hr, e1, ints_len, h0'', hsk, skV, skB, hl, parts_none h0 hl]
  | some k =>
    have hle := lenN_le hl
    obtain ⟨o, h1, h2⟩ := l_begins hg z z' e e' hr ([0], k) ⟨by simp; omega, hle.1, by simp⟩
    dsimp only at h2
    simp only [ints_cons, ints_nil] at h1
    have hp := parts_some h0 hl
    cases hq : parts g (r.drop k) with
    | none =>
      rw [hq] at h2 hp
      subst h2
      simp [hm, hg, begsM, rowB, ints_nil, rowP, hr, e1, ints_len, h0'', hsk, skV, skB, hl, hp, h1]
    | some ts =>
      rw [hq] at h2 hp
      subst h2
      simp [hm, hg, begsM, rowB, ints_nil, rowP, hr, e1, ints_len, h0'', hsk, skV, skB, hl, hp, h1, begs, Nat.min_eq_left hle.1]
theorem w_isatom (z z' : Bool) (g : List Sym) (e e' : List D) (a : List Int) : C 77 [iG z g e, iS z' a e'] = some (iB (atomB g a), [iG z g e, iS z' a e']) := by
  refine wfn (lk := []) rfl rfl (fnW_way (q77 _ _ z (syms g) e z' (ints a) e' _) ?_)
  cases a with
  | nil => simp [ints_nil, atomB]
  | cons p r =>
    have e0 : ¬ ((r.length : Int) + 1 = 0) := by omega
    by_cases h0 : p < 0
    · have h3 : ¬ 0 ≤ p := by omega
      simp [ints_cons, ints_len, atomB, h0, e0, h3]
    by_cases h2 : p < g.length
    · obtain ⟨s, hs⟩ := at_lt (l := g) (i := p.toNat) (by omega)
      have h3 : 0 ≤ p := by omega
      have h4 : ¬ (g.length : Int) ≤ p := by omega
      have e1 : (1 : Int) ≤ (r.length : Int) + 1 := by omega
      have hb := w_begins z z' g e [] r
      by_cases hk : s.kind = 0
      · cases hg : sigB g
        · simp [-getElem?_pos, List.getElem?_cons_zero, ints_cons, ints_len, atomB, h0, e0, e1, h2, h3, h4, syms_len, syms_at hs, hs, hk, hb, hg, rowB]
        · cases hp : rowP g r with
          | none => simp [-getElem?_pos, List.getElem?_cons_zero, ints_cons, ints_len, atomB, h0, e0, e1, h2, h3, h4, syms_len, syms_at hs, hs, hk, hb, hg, rowB, hp]
          | some ts =>
            by_cases hc : (ts.length : Int) = s.ar
            · simp [-getElem?_pos, List.getElem?_cons_zero, ints_cons, ints_len, atomB, h0, e0, e1, h2, h3, h4, syms_len, syms_at hs, hs, hk, hb, hg, rowB, hp, begsM, begs_len, hc]
            · simp [-getElem?_pos, List.getElem?_cons_zero, ints_cons, ints_len, atomB, h0, e0, e1, h2, h3, h4, syms_len, syms_at hs, hs, hk, hb, hg, rowB, hp, begsM, begs_len, hc]
      · simp [-getElem?_pos, List.getElem?_cons_zero, ints_cons, ints_len, atomB, h0, e0, e1, h2, h3, h4, syms_len, syms_at hs, hs, hk]
    · have hs : g[p.toNat]? = none := List.getElem?_eq_none (by omega)
      have h4 : (g.length : Int) ≤ p := by omega
      simp [ints_cons, ints_len, atomB, h0, h2, e0, h4, syms_len, hs]
end Go.Proofs.YtjoibdmiolcodaaGreatDoor.Ab

/- Rows of terms, atoms: what the reference's functions hand back. For every input; no condition. -/
set_option linter.unusedVariables false
set_option linter.unusedSimpArgs false
set_option maxRecDepth 100000
namespace Go.Proofs.YtjoibdmiolcodaaGreatDoor.Ab
open Go Go.Ab Go.Qu Go.Proofs
attribute [local simp] and_assoc
theorem l_rend {g : List Sym} (hg : SigOk g) (z z' : Bool) (e e' : List D) {r : List Int} (hr : r.length < 20000000000000) (x : Nat × Nat) (hx : x.1 ≤ r.length ∧ x.2 ≤ 3 * x.1 + 1) :
    evP F (Go.Ab.W F) (JW F d61 []) d61 [] [1,1,0] [(0, iG z g e), (1, iS z' r e'), (7, iI x.2), (8, iI x.1)] = some (match lenN g (r.drop x.1) x.2 with | some k => .norm [(0, iG z g e), (1, iS z' r e'), (7, iI 0), (8, iI (x.1 + k : Nat))] | none => .ret [(6, iI (-1))]) :=
  blk_fun (F := F) (d := d61) (lk := []) (p := [1,1,0,0,0]) (p0 := [1,1,0]) (id := 0) (by kernel_rfl) (st := fun (x : Nat × Nat) => [(0, iG z g e), (1, iS z' r e'), (7, iI x.2), (8, iI x.1)]) (I := fun x => x.1 ≤ r.length ∧ x.2 ≤ 3 * x.1 + 1) (μ := fun x => r.length - x.1)
    (res := fun x => match lenN g (r.drop x.1) x.2 with | some k => .norm [(0, iG z g e), (1, iS z' r e'), (7, iI 0), (8, iI (x.1 + k : Nat))] | none => .ret [(6, iI (-1))])
    (fun x hx => by
      obtain ⟨i, n⟩ := x
      obtain ⟨h1, h2⟩ := hx
      dsimp only at h1 h2
      by_cases hn : n = 0
      · subst hn
        refine .stop (.exit 0 [(0, iG z g e), (1, iS z' r e'), (7, iI 0), (8, iI i)]) (wpQ_way (q61_l0a _ _ z (syms g) e z' (ints r) e' 0 i _) (by simp)) rfl ?_
        dsimp only
        cases r.drop i <;> simp [lenN, blkO]
      have hn1 : 1 ≤ n := by omega
      have hn2 : 0 < n := by omega
      by_cases hi : i < r.length
      rotate_left
      · have hi' : (r.length : Int) ≤ i := by omega
        refine .stop (.ret [(6, iI (-1))]) (wpQ_way (q61_l0a _ _ z (syms g) e z' (ints r) e' n i _) (by simp [hn2, ints_len, hi', hn])) rfl ?_
        dsimp only
        rw [lenN_end hi hn1]; rfl
      have hi' : ¬ (r.length : Int) ≤ i := by omega
      have hw0 : IntKind.wrap .i64 ((n : Int) - 1) = ((n : Int) - 1) := wr _ (by omega) (by omega)
      have hw3 := wr1 hi (by omega)
      have fin : ∀ {k : Nat}, arOf g (gi r i) = some k → (match lenN g (r.drop (i + 1)) (n + k - 1) with | some k => Out.norm [(0, iG z g e), (1, iS z' r e'), (7, iI 0), (8, iI (i + 1 + k : Nat))] | none => .ret [(6, iI (-1))]) = (match lenN g (r.drop i) n with | some k => Out.norm [(0, iG z g e), (1, iS z' r e'), (7, iI 0), (8, iI (i + k : Nat))] | none => .ret [(6, iI (-1))]) := fun {k} ha => by
        rw [lenN_go hi hn1 ha]
        cases lenN g (r.drop (i + 1)) (n + k - 1) <;> simp; omega
      by_cases h0 : gi r i < 0
      · have c1 : ¬ 0 ≤ gi r i := by omega
        have c3 : ¬ (g.length : Int) ≤ gi r i := by omega
        by_cases h3 : -24 ≤ gi r i
        · have c2 : ¬ gi r i < -24 := by omega
          have ha : arOf g (gi r i) = some 0 := by simp [arOf, h0, h3]
          have hcast : (n : Int) - 1 = ((n + 0 - 1 : Nat) : Int) := by omega
          refine .go (i + 1, n + 0 - 1) (wpQ_way (q61_l0a _ _ z (syms g) e z' (ints r) e' n i _) ?_) ⟨by dsimp only; omega, by dsimp only; omega⟩ (by dsimp only; omega) (fin ha)
          simp [-getElem?_pos, -Int.natCast_add, hn2, ints_len, hi', Go.Ab.ints_at hi, c1, c2, c3, hw0, hw3, syms_len]; omega
        · have c2 : gi r i < -24 := by omega
          refine .stop (.ret [(6, iI (-1))]) (wpQ_way (q61_l0a _ _ z (syms g) e z' (ints r) e' n i _) ?_) rfl (by dsimp only; rw [lenN_no hi hn1 (by simp [arOf, h0, h3])]; rfl)
          simp [-getElem?_pos, hn2, ints_len, hi', Go.Ab.ints_at hi, c2, h3]
      have c1 : 0 ≤ gi r i := by omega
      have c2 : ¬ gi r i < -24 := by omega
      by_cases h4 : gi r i < g.length
      · obtain ⟨s, hs⟩ := at_lt (l := g) (i := (gi r i).toNat) (by omega)
        have hnn := hg.nums _ _ hs
        have c3 : ¬ (g.length : Int) ≤ gi r i := by omega
        by_cases hk : s.kind = 0
        · refine .stop (.ret [(6, iI (-1))]) (wpQ_way (q61_l0a _ _ z (syms g) e z' (ints r) e' n i _) ?_) rfl (by dsimp only; rw [lenN_no hi hn1 (by simp [arOf, h0, hs, hk])]; rfl)
          simp [-getElem?_pos, hn2, ints_len, hi', Go.Ab.ints_at hi, c1, c2, c3, syms_len, syms_at hs, hk]
        · have hw1 : IntKind.wrap .i64 ((n : Int) - 1 + s.ar) = ((n + s.ar.toNat - 1 : Nat) : Int) := by rw [wr _ (by omega) (by omega)]; omega
          have ha : arOf g (gi r i) = some s.ar.toNat := by simp [arOf, h0, hs, hk]
          refine .go (i + 1, n + s.ar.toNat - 1) (wpQ_way (q61_l0a _ _ z (syms g) e z' (ints r) e' n i _) ?_) ⟨by dsimp only; omega, by dsimp only; omega⟩ (by dsimp only; omega) (fin ha)
          simp [-getElem?_pos, -Int.natCast_add, hn2, ints_len, hi', Go.Ab.ints_at hi, c1, c2, c3, syms_len, syms_at hs, hk, hw0, hw1, hw3]
          omega
      · have hs : g[(gi r i).toNat]? = none := List.getElem?_eq_none (by omega)
        have c3 : (g.length : Int) ≤ gi r i := by omega
        refine .stop (.ret [(6, iI (-1))]) (wpQ_way (q61_l0a _ _ z (syms g) e z' (ints r) e' n i _) ?_) rfl (by dsimp only; rw [lenN_no hi hn1 (by simp [arOf, h0, hs])]; rfl)
        simp [-getElem?_pos, hn2, ints_len, hi', Go.Ab.ints_at hi, c1, c2, c3, syms_len]) x hx
theorem w_rend {g : List Sym} (hg : SigOk g) (z z' : Bool) (e e' : List D) {r : List Int} (hr : r.length < 20000000000000) (i : Nat) (hi0 : i ≤ r.length) : C 61 [iG z g e, iS z' r e', iI i] = some (iI (skR g r i 1), [iG z g e, iS z' r e', iI i]) := by
  refine wfn (lk := []) rfl rfl (fnW_way (q61 _ _ z (syms g) e z' (ints r) e' i _) ?_)
  have h1 : evP F (Go.Ab.W F) (JW F d61 []) d61 [] [1,1,0] [(0, iG z g e), (1, iS z' r e'), (7, iI 1), (8, iI i)] = _ := l_rend hg z z' e e' hr (i, 1) ⟨hi0, by dsimp only; omega⟩
  cases hl : lenN g (r.drop i) 1 with
  | none => simp only [hl] at h1; simp [h1, skR, hl]
  | some k => simp only [hl] at h1; simp [h1, skR, hl]
/-- How many terms; -1: it is no row of terms. -/
theorem l_rterms {g : List Sym} (hg : SigOk g) (z z' : Bool) (e e' : List D) {r : List Int} (hr : r.length < 20000000000000) (x : Nat × Nat) (hx : x.2 ≤ r.length ∧ x.1 ≤ x.2) :
    evP F (Go.Ab.W F) (JW F d41 []) d41 [] [1,1,1,0] [(0, iG z g e), (1, iS z' r e'), (5, iI x.1), (6, iI x.2)] = some (match parts g (r.drop x.2) with | some ts => .norm [(0, iG z g e), (1, iS z' r e'), (5, iI (x.1 + ts.length : Nat)), (6, iI r.length)] | none => .ret [(4, iI (-1))]) :=
  blk_fun (F := F) (d := d41) (lk := []) (p := [1,1,1,0,0,0]) (p0 := [1,1,1,0]) (id := 0) (by kernel_rfl) (st := fun (x : Nat × Nat) => [(0, iG z g e), (1, iS z' r e'), (5, iI x.1), (6, iI x.2)]) (I := fun x => x.2 ≤ r.length ∧ x.1 ≤ x.2) (μ := fun x => r.length - x.2)
    (res := fun x => match parts g (r.drop x.2) with | some ts => .norm [(0, iG z g e), (1, iS z' r e'), (5, iI (x.1 + ts.length : Nat)), (6, iI r.length)] | none => .ret [(4, iI (-1))])
    (fun x hx => by
      obtain ⟨n, i⟩ := x
      obtain ⟨h1, h2⟩ := hx
      dsimp only at h1 h2
      by_cases hi : i < r.length
      · have hi' : (i : Int) < r.length := by omega
        have hne : r.drop i ≠ [] := by simp; omega
        have he := w_rend hg z z' e e' hr i h1
        have hw : IntKind.wrap .i64 ((n : Int) + 1) = ((n + 1 : Nat) : Int) := by rw [wr _ (by omega) (by omega)]; omega
        cases hl : lenN g (r.drop i) 1 with
        | none =>
          refine .stop (.ret [(4, iI (-1))]) (wpQ_way (q41_l0a _ _ z (syms g) e z' (ints r) e' n i _) ?_) rfl (by dsimp only; rw [parts_none hne hl]; rfl)
          simp [ints_len, hi, he, skR, hl]
        | some k =>
          have hle := lenN_le hl
          simp at hle
          refine .go (n + 1, i + k) (wpQ_way (q41_l0a _ _ z (syms g) e z' (ints r) e' n i _) ?_) ⟨by dsimp only; omega, by dsimp only; omega⟩ (by dsimp only; omega) ?_
          · simp [-Int.natCast_add, ints_len, hi, he, skR, hl, hw]
          · dsimp only
            rw [parts_some hne hl, List.drop_drop]
            cases parts g (r.drop (i + k)) <;> simp; omega
      · have hir : i = r.length := by omega
        refine .stop (.exit 0 [(0, iG z g e), (1, iS z' r e'), (5, iI n), (6, iI i)]) (wpQ_way (q41_l0a _ _ z (syms g) e z' (ints r) e' n i _) ?_) rfl ?_
        · simp [ints_len, hir]
        · dsimp only
          rw [List.drop_of_length_le (by omega), parts_nil]; simp [blkO, hir]) x hx
def termsM (g : List Sym) (r : List Int) : Int := match rowP g r with | some ts => (ts.length : Int) | none => -1
theorem w_rterms {g : List Sym} (hg : SigOk g) (z z' : Bool) (e e' : List D) (r : List Int) : C 41 [iG z g e, iS z' r e'] = some (iI (termsM g r), [iG z g e, iS z' r e']) := by
  refine wfn (lk := []) rfl rfl (fnW_way (q41 _ _ z (syms g) e z' (ints r) e' _) ?_)
  by_cases hr : r.length ≤ 48
  · have e1 : ¬ 48 < (r.length : Int) := by omega
    have h1 : evP F (Go.Ab.W F) (JW F d41 []) d41 [] [1,1,1,0] [(0, iG z g e), (1, iS z' r e'), (5, iI 0), (6, iI 0)] = some (match parts g r with | some ts => .norm [(0, iG z g e), (1, iS z' r e'), (5, iI (0 + ts.length : Nat)), (6, iI r.length)] | none => .ret [(4, iI (-1))]) := l_rterms hg z z' e e' (r := r) (by omega) (0, 0) ⟨Nat.zero_le _, Nat.le_refl _⟩
    cases hp : parts g r with
    | none => simp only [hp] at h1; simp [ints_len, e1, h1, termsM, rowP, hr, hp]
    | some ts => simp only [hp] at h1; simp [ints_len, e1, h1, termsM, rowP, hr, hp]
  · have e1 : 48 < (r.length : Int) := by omega
    simp [ints_len, e1, termsM, rowP, hr]
/-- Of a signature that may be. -/
theorem w_risatom {g : List Sym} (hg : sigB g = true) (z z' : Bool) (e e' : List D) (a : List Int) : C 60 [iG z g e, iS z' a e'] = some (iB (atomB g a), [iG z g e, iS z' a e']) := by
  refine wfn (lk := []) rfl rfl (fnW_way (q60 _ _ z (syms g) e z' (ints a) e' _) ?_)
  cases a with
  | nil => simp [ints_nil, atomB]
  | cons p r =>
    have e0 : (0 : Int) < (r.length : Int) + 1 := by omega
    by_cases h0 : p < 0
    · have h3 : ¬ 0 ≤ p := by omega
      simp [ints_cons, ints_len, atomB, h0, e0, h3]
    have h3 : 0 ≤ p := by omega
    by_cases h2 : p < g.length
    · obtain ⟨s, hs⟩ := at_lt (l := g) (i := p.toNat) (by omega)
      have e1 : (1 : Int) ≤ (r.length : Int) + 1 := by omega
      have hb := w_rterms (sigOk hg) z z' e [] r
      have hn := (sigOk hg).nums _ _ hs
      by_cases hk : s.kind = 0
      · cases hp : rowP g r with
        | none =>
          have hc : ¬ (-1 = s.ar) := by omega
          simp [-getElem?_pos, List.getElem?_cons_zero, ints_cons, ints_len, atomB, h0, e0, e1, h2, h3, syms_len, syms_at hs, hs, hk, hb, hg, termsM, hp, hc]
        | some ts =>
          by_cases hc : (ts.length : Int) = s.ar
          · simp [-getElem?_pos, List.getElem?_cons_zero, ints_cons, ints_len, atomB, h0, e0, e1, h2, h3, syms_len, syms_at hs, hs, hk, hb, hg, termsM, hp, hc]
          · simp [-getElem?_pos, List.getElem?_cons_zero, ints_cons, ints_len, atomB, h0, e0, e1, h2, h3, syms_len, syms_at hs, hs, hk, hb, hg, termsM, hp, hc]
      · simp [-getElem?_pos, List.getElem?_cons_zero, ints_cons, ints_len, atomB, h0, e0, e1, h2, h3, syms_len, syms_at hs, hs, hk]
    · have hs : g[p.toNat]? = none := List.getElem?_eq_none (by omega)
      simp [ints_cons, ints_len, atomB, h0, e0, h2, h3, syms_len, hs]; omega
end Go.Proofs.YtjoibdmiolcodaaGreatDoor.Ab

/- Rows of numbers: the same, copied, their least, their variables. For every input; no condition. -/
set_option linter.unusedVariables false
set_option linter.unusedSimpArgs false
set_option maxRecDepth 100000
namespace Go.Proofs.YtjoibdmiolcodaaGreatDoor.Ab
open Go Go.Ab Go.Qu Go.Proofs
attribute [local simp] and_assoc
@[simp] theorem w_num (c : Int) : C 10 [iI c] = some (iI c, [iI c]) :=
  wfn (lk := []) rfl rfl (fnW_way (q10 _ _ c _) (by simp))
theorem w_sameints {a : List Int} (ha : Len a) (b : List Int) (z z' : Bool) (e e' : List D) : C 71 [iS z a e, iS z' b e'] = some (iB (decide (a = b)), [iS z a e, iS z' b e']) := by
  refine wfn (lk := []) rfl rfl (fnW_way (q71 _ _ z (ints a) e z' (ints b) e' _) ?_)
  have hal := ha.lt
  by_cases hl : a.length = b.length
  rotate_left
  · have e1 : ¬ (a.length : Int) = b.length := by omega
    have e2 : ¬ a = b := fun h => hl (by rw [h])
    simp [ints_len, e1, e2]
  rcases blk_all (F := F) (d := d71) (lk := []) (p := [1,1,0,1,0,0]) (p0 := [1,1,0,1]) (by kernel_rfl) (n := a.length) (id := 0) (st := fun i => [(0, iS z a e), (1, iS z' b e'), (5, iI i)]) (q := fun i => gi a i == gi b i) (rt := [(4, iB false)]) (e := [(0, iS z a e), (1, iS z' b e'), (5, iI a.length)])
    (fun i hi hq => wpQ_way (q71_l0a _ _ z (ints a) e z' (ints b) e' i _) (by simp at hq; simp [-getElem?_pos, ints_len, wr1 hi (by omega), hi, Go.Ab.ints_at hi, Go.Ab.ints_at (hl ▸ hi), hq]))
    (fun i hi hq => wpQ_way (q71_l0a _ _ z (ints a) e z' (ints b) e' i _) (by simp at hq; simp [-getElem?_pos, ints_len, hi, Go.Ab.ints_at hi, Go.Ab.ints_at (hl ▸ hi), hq]))
    (wpQ_way (q71_l0a _ _ z (ints a) e z' (ints b) e' a.length _) (by simp [ints_len])) 0 (Nat.zero_le _) with ⟨h2, h3⟩ | ⟨⟨j, h2, h4, h5⟩, h3⟩
  · have hab : a = b := ints_ext hl (fun i hi => by simpa using h2 i (Nat.zero_le _) hi)
    simp at h3
    simp [-Bool.exists_bool, ints_len, hab]
    rw [hab] at h3
    simp [-Bool.exists_bool, h3]
  · have hab : ¬ a = b := fun h => by rw [h] at h5; simp at h5
    simp at h3
    simp [ints_len, hl, hab]
    simp [h3]
/-- Rows that are new. -/
def fresh (r : Row) : Row := ⟨false, r.l, []⟩
theorem w_samerows {a : List Row} (hn : a.length * 24 ≤ 140737488351232) (ha : ∀ r ∈ a, Len r.l) (b : List Row) (z z' : Bool) (e e' : List D) : C 52 [iR z a e, iR z' b e'] = some (iB (decide (a.map (·.l) = b.map (·.l))), [iR z a e, iR z' b e']) := by
  refine wfn (lk := []) rfl rfl (fnW_way (q52 _ _ z (rws a) e z' (rws b) e' _) ?_)
  by_cases hl : a.length = b.length
  rotate_left
  · have e1 : ¬ (a.length : Int) = b.length := by omega
    have e2 : ¬ a.map (·.l) = b.map (·.l) := fun h => hl (by have := congrArg List.length h; simpa using this)
    simp [rws_len, e1, e2]
  rcases blk_all (F := F) (d := d52) (lk := []) (p := [1,1,0,1,0,0]) (p0 := [1,1,0,1]) (by kernel_rfl) (n := a.length) (id := 0) (st := fun i => [(0, iR z a e), (1, iR z' b e'), (5, iI i)]) (q := fun i => (a[i]?.map (·.l)) == (b[i]?.map (·.l))) (rt := [(4, iB false)]) (e := [(0, iR z a e), (1, iR z' b e'), (5, iI a.length)])
    (fun i hi hq => by
      obtain ⟨x, hx⟩ := at_lt hi
      obtain ⟨y, hy⟩ := at_lt (show i < b.length by omega)
      simp [hx, hy] at hq
      exact wpQ_way (q52_l0a _ _ z (rws a) e z' (rws b) e' i _) (by simp [-getElem?_pos, rws_len, wr1 hi (by omega), hi, rws_at hx, rws_at hy, w_sameints (ha x (List.mem_of_getElem? hx)), hq.symm]))
    (fun i hi hq => by
      obtain ⟨x, hx⟩ := at_lt hi
      obtain ⟨y, hy⟩ := at_lt (show i < b.length by omega)
      simp [hx, hy] at hq
      exact wpQ_way (q52_l0a _ _ z (rws a) e z' (rws b) e' i _) (by simp [-getElem?_pos, rws_len, hi, rws_at hx, rws_at hy, w_sameints (ha x (List.mem_of_getElem? hx)), hq]))
    (wpQ_way (q52_l0a _ _ z (rws a) e z' (rws b) e' a.length _) (by simp [rws_len])) 0 (Nat.zero_le _) with ⟨h2, h3⟩ | ⟨⟨j, h2, h4, h5⟩, h3⟩
  · have hab : a.map (·.l) = b.map (·.l) := by
      refine List.ext_getElem? (fun i => ?_)
      by_cases hi : i < a.length
      · have := h2 i (Nat.zero_le _) hi
        simpa using this
      · rw [List.getElem?_eq_none (by simpa using hi), List.getElem?_eq_none (by simp; omega)]
    simp at h3
    simp [rws_len, hl, hab, h3]
  · have hab : ¬ a.map (·.l) = b.map (·.l) := fun h => by
      have := congrArg (·[j]?) h
      simp at this h5
      exact h5 this
    simp at h3
    simp [rws_len, hl, hab, h3]
end Go.Proofs.YtjoibdmiolcodaaGreatDoor.Ab

/- Tables of facts: what may be one, where a fact stands. Plain lists; no condition. -/
set_option linter.unusedVariables false
set_option linter.unusedSimpArgs false
namespace Go.Qu
open Go Go.Ab

/-- Codes that are none of variables, and not great. -/
def Small (a : List Int) : Prop := ∀ c ∈ a, 0 ≤ c ∧ c ≤ 1000000
theorem lenN_codes {g : List Sym} : ∀ {r : List Int} {n k : Nat}, lenN g r n = some k → ∀ c ∈ r.take k, (arOf g c).isSome = true
  | r, 0, k, h, c, hc => by cases r <;> (simp [lenN] at h; subst h; simp at hc)
  | [], n + 1, k, h, c, hc => by simp [lenN] at h
  | x :: r, n + 1, k, h, c, hc => by
    unfold lenN at h
    split at h
    · cases h
    · rename_i a ha
      obtain ⟨m, hm, rfl⟩ := Option.map_eq_some_iff.1 h
      rw [List.take_succ_cons] at hc
      rcases List.mem_cons.1 hc with rfl | hc
      · rw [ha]; rfl
      · exact lenN_codes hm c hc
theorem parts_codes {g : List Sym} : ∀ (n : Nat) (r : List Int) {ts : List (List Int)}, r.length ≤ n → parts g r = some ts → ∀ c ∈ r, (arOf g c).isSome = true
  | n, [], ts, hn, h, c, hc => by simp at hc
  | 0, x :: r, ts, hn, h, c, hc => by simp at hn
  | n + 1, x :: r, ts, hn, h, c, hc => by
    cases hl : lenN g (x :: r) 1 with
    | none => rw [parts_none (by simp) hl] at h; cases h
    | some k =>
      rw [parts_some (by simp) hl] at h
      obtain ⟨us, h1, rfl⟩ := Option.map_eq_some_iff.1 h
      have h2 := lenN_le hl
      have hsplit : c ∈ (x :: r).take k ∨ c ∈ (x :: r).drop k := by
        rw [← List.mem_append, List.take_append_drop]; exact hc
      rcases hsplit with hc | hc
      · exact lenN_codes hl c hc
      · exact parts_codes n _ (by simp at hn ⊢; omega) h1 c hc
theorem arOf_lt {g : List Sym} {c : Int} (h : (arOf g c).isSome = true) : -24 ≤ c ∧ c < g.length := by
  unfold arOf at h
  split at h
  · split at h
    · omega
    · cases h
  · split at h
    · cases h
    · rename_i s hs
      have := lt_at hs
      omega
/-- The codes of an atom. -/
theorem atom_codes {g : List Sym} {a : List Int} (h : atomB g a = true) : a.length ≤ 49 ∧ (∀ c ∈ a, -24 ≤ c ∧ c < g.length) ∧ g.length ≤ 20 := by
  cases a with
  | nil => simp [atomB] at h
  | cons p r =>
    simp only [atomB] at h
    split at h
    · cases h
    · rename_i hp
      split at h
      · cases h
      · rename_i s hs
        simp only [Bool.and_eq_true] at h
        obtain ⟨⟨h1, h2⟩, h3⟩ := h
        have hl := lt_at hs
        have hg := sigOk h2
        unfold rowP at h3
        by_cases hr : r.length ≤ 48
        · rw [if_pos hr] at h3
          cases hps : parts g r with
          | none => rw [hps] at h3; cases h3
          | some ts =>
            refine ⟨by simp; omega, fun c hc => ?_, hg.hi⟩
            rcases List.mem_cons.1 hc with rfl | hc
            · omega
            · exact arOf_lt (parts_codes _ r (Nat.le_refl _) hps c hc)
        · rw [if_neg hr] at h3; cases h3
/-! ### Where a fact stands -/
/-! ### The reference's words -/
/-! ### For the walks -/
def bls (l : List Bool) : List D := l.map D.bool
end Go.Qu

/- Literals, clauses: what may be, what they weigh. Plain lists; no condition. -/
set_option linter.unusedVariables false
set_option linter.unusedSimpArgs false
namespace Go.Qu
open Go Go.Ab

structure LitR where
  neg : Bool
  r : Row
def LitR.d (l : LitR) : D := .agg [.bool l.neg, .sl 1 l.r.z (ints l.r.l) l.r.e]
def lits (ls : List LitR) : List D := ls.map LitR.d
abbrev iL (z : Bool) (ls : List LitR) (e : List D) : IV := .d (.sl 2 z (lits ls) e)
abbrev iLit (b : Bool) (z : Bool) (l : List Int) (e : List D) : IV := .d (.agg [.bool b, .sl 1 z (ints l) e])
theorem lits_len (l : List LitR) : (lits l).length = l.length := by simp [lits]
theorem lits_at {l : List LitR} {i : Nat} {s : LitR} (h : l[i]? = some s) : (lits l)[i]? = some (.agg [.bool s.neg, .sl 1 s.r.z (ints s.r.l) s.r.e]) := by simp [lits, h, LitR.d]
/-- A clause as it lies in memory. -/
structure Cl where
  lz : Bool
  ls : List LitR
  le : List D
  tz : Bool
  ts : List Row
  te : List D
  cz : Bool
  cs : List LitR
  ce : List D
abbrev Cl.d (c : Cl) : D := .agg [.sl 2 c.lz (lits c.ls) c.le, .sl 1 c.tz (rws c.ts) c.te, .sl 2 c.cz (lits c.cs) c.ce]
abbrev iC (c : Cl) : IV := .d (.agg [.sl 2 c.lz (lits c.ls) c.le, .sl 1 c.tz (rws c.ts) c.te, .sl 2 c.cz (lits c.cs) c.ce])
/-! ### What may be -/
def litsB (g : List Sym) (ls : List LitR) : Bool := ls.all fun l => atomB g l.r.l
def lenL : List LitR → Nat
  | [] => 0
  | l :: ls => l.r.l.length + lenL ls
def lenR : List Row → Nat
  | [] => 0
  | r :: rs => r.l.length + lenR rs
def termsN (g : List Sym) (r : List Int) : Nat := (begsM g r).length
def rowsF (g : List Sym) (k : Nat) (ts : List Row) : Bool := ts.all fun r => rowB g r.l && (termsN g r.l == k)
def rowsB (g : List Sym) (ts : List Row) : Bool := match ts with
  | [] => true
  | r :: _ => rowsF g (termsN g r.l) ts
def clB (g : List Sym) (c : Cl) : Bool := sigB g && (decide (c.ls.length ≤ 5) && (decide (c.ts.length ≤ 3) && (decide (c.cs.length ≤ 3) && (litsB g c.ls && (rowsB g c.ts && (litsB g c.cs && decide (lenL c.ls + lenR c.ts + lenL c.cs ≤ 240)))))))
theorem lenL_le {g : List Sym} : ∀ {ls : List LitR}, litsB g ls = true → lenL ls ≤ 49 * ls.length
  | [], h => by simp [lenL]
  | l :: ls, h => by
    simp only [litsB, List.all_cons, Bool.and_eq_true] at h
    have h1 := (atom_codes h.1).1
    have h2 := lenL_le (ls := ls) h.2
    simp [lenL]; omega
theorem rowB_len {g : List Sym} {r : List Int} (h : rowB g r = true) : r.length ≤ 48 := by
  simp only [rowB, Bool.and_eq_true, rowP] at h
  by_cases h1 : r.length ≤ 48
  · exact h1
  · rw [if_neg h1] at h; simp at h
theorem lenR_le {g : List Sym} {k : Nat} : ∀ {ts : List Row}, rowsF g k ts = true → lenR ts ≤ 48 * ts.length
  | [], h => by simp [lenR]
  | r :: ts, h => by
    simp only [rowsF, List.all_cons, Bool.and_eq_true] at h
    have h1 := rowB_len h.1.1
    have h2 := lenR_le (ts := ts) (k := k) h.2
    simp [lenR]; omega
/-! ### What they weigh -/
end Go.Qu

/- Rows of terms: how deep they are, which variables they have, what joining and cutting does. Plain lists, no program in sight; no condition. -/
set_option linter.unusedVariables false
set_option linter.unusedSimpArgs false
namespace Go.Qu
open Go Go.Ab
/-! ### Rows -/
theorem rowB_parts {g : List Sym} {r : List Int} (h : rowB g r = true) : sigB g = true ∧ r.length ≤ 48 ∧ ∃ ts, parts g r = some ts ∧ rowP g r = some ts := by
  simp only [rowB, Bool.and_eq_true, rowP] at h
  by_cases h1 : r.length ≤ 48
  · rw [if_pos h1] at h
    obtain ⟨ts, hts⟩ := Option.isSome_iff_exists.1 h.2
    exact ⟨h.1, h1, ts, hts, by simp [rowP, h1, hts]⟩
  · rw [if_neg h1] at h; simp at h
theorem termsN_no {g : List Sym} {r : List Int} (h : rowB g r = false) : termsN g r = 0 := by
  simp only [rowB, Bool.and_eq_false_iff] at h
  unfold termsN begsM
  rcases h with h | h
  · simp [h]
  · cases hp : rowP g r with
    | none => simp
    | some ts => rw [hp] at h; simp at h
theorem row_codes {g : List Sym} {r : List Int} (h : rowB g r = true) : ∀ c ∈ r, -24 ≤ c ∧ c < g.length := by
  obtain ⟨hg, hr, ts, hts, _⟩ := rowB_parts h
  intro c hc
  exact arOf_lt (parts_codes _ r (Nat.le_refl _) hts c hc)
/-! ### How deep -/
/-! ### Which variables -/
end Go.Qu

/- Rows of terms: what the program's and the reference's exported functions hand back. For every input; no condition. -/
set_option linter.unusedVariables false
set_option linter.unusedSimpArgs false
set_option maxRecDepth 100000
namespace Go.Proofs.YtjoibdmiolcodaaGreatDoor.Ab
open Go Go.Ab Go.Qu Go.Proofs
attribute [local simp] and_assoc
theorem w_row (z z' : Bool) (g : List Sym) (e e' : List D) (r : List Int) : C 65 [iG z g e, iS z' r e'] = some (.tup [iI (termsN g r), iI (if rowB g r = true then 0 else 200)], [iG z g e, iS z' r e']) := by
  refine wfn (lk := []) rfl rfl (fnW_way (q65 _ _ z (syms g) e z' (ints r) e' _) ?_)
  have h1 := w_begins z z' g e e' r
  cases h : rowB g r
  · simp [-Bool.exists_bool, h1, h, termsN_no h]
  · simp [-Bool.exists_bool, h1, h, ints_len, termsN]
/-! ### Numbers that rise -/
/-! ### The reference's -/
end Go.Proofs.YtjoibdmiolcodaaGreatDoor.Ab

/- Literals, clauses: what the program's and the reference's functions hand back. For every input; no condition. -/
set_option linter.unusedVariables false
set_option linter.unusedSimpArgs false
set_option maxRecDepth 100000
namespace Go.Proofs.YtjoibdmiolcodaaGreatDoor.Ab
open Go Go.Ab Go.Qu Go.Proofs
attribute [local simp] and_assoc
theorem w_litmay (z : Bool) (g : List Sym) (e : List D) (b z' : Bool) (a : List Int) (e' : List D) : C 64 [iG z g e, iLit b z' a e'] = some (iB (atomB g a), [iG z g e, iLit b z' a e']) := by
  refine wfn (lk := []) rfl rfl (fnW_way (q64 _ _ z (syms g) e b z' (ints a) e' _) ?_)
  have h1 := w_isatom z z' g e e' a
  cases h : atomB g a <;> simp [-Bool.exists_bool, h1, h]
theorem w_litsmay (z z' : Bool) (g : List Sym) (e e' : List D) {ls : List LitR} (hl : ls.length ≤ 1000) : C 45 [iG z g e, iL z' ls e'] = some (.tup [iI (if litsB g ls = true then (lenL ls : Int) else 0), iB (litsB g ls)], [iG z g e, iL z' ls e']) := by
  refine wfn (lk := []) rfl rfl (fnW_way (q45 _ _ z (syms g) e z' (lits ls) e' _) ?_)
  have h1 := fun x hx => blk_fun (F := F) (d := d45) (lk := []) (p := [1,1,0,1,0,0]) (p0 := [1,1,0,1]) (id := 0) (by kernel_rfl) (st := fun (x : Nat × Nat) => [(0, iG z g e), (6, iI x.2), (9, iL z' ls e'), (10, iI ls.length), (11, iI x.1)]) (I := fun x => x.1 ≤ ls.length ∧ x.2 ≤ 49 * x.1) (μ := fun x => ls.length - x.1)
    (res := fun x => if litsB g (ls.drop x.1) = true then .norm [(0, iG z g e), (6, iI (x.2 + lenL (ls.drop x.1) : Nat)), (9, iL z' ls e'), (10, iI ls.length), (11, iI ls.length)] else .ret [(4, iI 0), (5, iB false)])
    (fun x hx => by
      obtain ⟨i, k⟩ := x
      obtain ⟨hx1, hx2⟩ := hx
      dsimp only at hx1 hx2
      by_cases hi : i < ls.length
      · obtain ⟨l, hl1⟩ := at_lt hi
        have hd : ls.drop i = l :: ls.drop (i + 1) := by
          rw [List.drop_eq_getElem_cons hi]
          rw [List.getElem?_eq_getElem hi] at hl1
          cases hl1; rfl
        have hm := w_litmay z g e l.neg l.r.z l.r.l l.r.e
        have hi' : (i : Int) < ls.length := by omega
        cases hb : atomB g l.r.l
        · refine .stop (.ret [(4, iI 0), (5, iB false)]) (wpQ_way (q45_l0a _ _ z (syms g) e k z' (lits ls) e' _ i _) ?_) rfl ?_
          · simp [-Bool.exists_bool, -getElem?_pos, hi', lits_at hl1, hm, hb]
          · dsimp only; rw [hd]; simp [litsB, hb, blkO]
        · have h49 := (atom_codes hb).1
          have hw : IntKind.wrap .i64 ((k : Int) + (l.r.l.length : Int)) = ((k + l.r.l.length : Nat) : Int) := by rw [wr _ (by omega) (by omega)]; omega
          refine .go (i + 1, k + l.r.l.length) (wpQ_way (q45_l0a _ _ z (syms g) e k z' (lits ls) e' _ i _) ?_) ⟨by dsimp only; omega, by dsimp only; omega⟩ (by dsimp only; omega) ?_
          · simp [-Bool.exists_bool, -getElem?_pos, -Int.natCast_add, hi', lits_at hl1, hm, hb, ints_len, hw, wr1 hi (by omega)]
          · dsimp only; rw [hd]
            have h3 : litsB g (l :: ls.drop (i + 1)) = litsB g (ls.drop (i + 1)) := by simp [litsB, hb]
            rw [h3, lenL, ← Nat.add_assoc]
      · have e1 : i = ls.length := by omega
        subst e1
        refine .stop (.exit 0 [(0, iG z g e), (6, iI k), (9, iL z' ls e'), (10, iI ls.length), (11, iI ls.length)]) (wpQ_way (q45_l0a _ _ z (syms g) e k z' (lits ls) e' _ _ _) (by simp)) rfl ?_
        simp [blkO, litsB, lenL]) x hx
  have h2 : evP F (Go.Ab.W F) (JW F d45 []) d45 [] [1,1,0,1] [(0, iG z g e), (6, iI 0), (9, iL z' ls e'), (10, iI ls.length), (11, iI 0)] = _ := h1 (0, 0) ⟨Nat.zero_le _, Nat.le_refl _⟩
  rw [List.drop_zero, Nat.zero_add] at h2
  cases h : litsB g ls
  · rw [h] at h2
    simp only [Bool.false_eq_true, if_false] at h2
    simp [-Bool.exists_bool, lits_len, h2]
  · rw [h] at h2
    simp only [if_true] at h2
    simp [-Bool.exists_bool, lits_len, h2]
theorem w_rowsmay (z z' : Bool) (g : List Sym) (e e' : List D) {ts : List Row} (hl : ts.length ≤ 1000) : C 46 [iG z g e, iR z' ts e'] = some (.tup [iI (if rowsB g ts = true then (lenR ts : Int) else 0), iB (rowsB g ts)], [iG z g e, iR z' ts e']) := by
  refine wfn (lk := []) rfl rfl (fnW_way (q46 _ _ z (syms g) e z' (rws ts) e' _) ?_)
  cases ts with
  | nil =>
    have h2 : evP F (Go.Ab.W F) (JW F d46 []) d46 [] [1,1,0,1] [(0, iG z g e), (6, iI 0), (7, iI 0), (12, iR z' [] e'), (13, iI 0), (14, iI 0)] = some (.norm [(0, iG z g e), (6, iI 0), (7, iI 0), (12, iR z' [] e'), (13, iI 0), (14, iI 0)]) :=
      blk_fun (F := F) (d := d46) (lk := []) (p := [1,1,0,1,0,0]) (p0 := [1,1,0,1]) (id := 0) (by kernel_rfl) (st := fun (_ : Unit) => [(0, iG z g e), (6, iI 0), (7, iI 0), (12, iR z' [] e'), (13, iI 0), (14, iI 0)]) (I := fun _ => True) (μ := fun _ => 0) (res := fun _ => .norm [(0, iG z g e), (6, iI 0), (7, iI 0), (12, iR z' [] e'), (13, iI 0), (14, iI 0)])
        (fun _ _ => .stop (.exit 0 [(0, iG z g e), (6, iI 0), (7, iI 0), (12, iR z' [] e'), (13, iI 0), (14, iI 0)]) (wpQ_way (q46_l0a _ _ z (syms g) e 0 0 z' (rws []) e' _ _ _) (by simp)) rfl (by simp [blkO])) () trivial
    simp only [iR, rws_nil] at h2
    simp [-Bool.exists_bool, rws_nil, rowsB, lenR, h2]
  | cons r0 tl =>
    have hsp : ∀ n : Nat, n = termsN g r0.l → rowsB g (r0 :: tl) = rowsF g n (r0 :: tl) := fun n h => by rw [h]; rfl
    have h1 := fun x hx => blk_fun (F := F) (d := d46) (lk := []) (p := [1,1,0,1,0,0]) (p0 := [1,1,0,1]) (id := 0) (by kernel_rfl) (st := fun (x : Nat × Nat) => [(0, iG z g e), (6, iI x.2), (7, iI (if x.1 = 0 then 0 else (termsN g r0.l : Int))), (12, iR z' (r0 :: tl) e'), (13, iI (r0 :: tl).length), (14, iI x.1)]) (I := fun x => x.1 ≤ (r0 :: tl).length ∧ x.2 ≤ 48 * x.1) (μ := fun x => (r0 :: tl).length - x.1)
      (res := fun x => if rowsF g (termsN g r0.l) ((r0 :: tl).drop x.1) = true then .norm [(0, iG z g e), (6, iI (x.2 + lenR ((r0 :: tl).drop x.1) : Nat)), (7, iI (termsN g r0.l)), (12, iR z' (r0 :: tl) e'), (13, iI (r0 :: tl).length), (14, iI (r0 :: tl).length)] else .ret [(4, iI 0), (5, iB false)])
      (fun x hx => by
        obtain ⟨i, k⟩ := x
        obtain ⟨hx1, hx2⟩ := hx
        dsimp only at hx1 hx2
        by_cases hi : i < (r0 :: tl).length
        · obtain ⟨r, hr1⟩ := at_lt hi
          have hd : (r0 :: tl).drop i = r :: (r0 :: tl).drop (i + 1) := by
            rw [List.drop_eq_getElem_cons hi]
            rw [List.getElem?_eq_getElem hi] at hr1
            cases hr1; rfl
          have h0r : i = 0 → r = r0 := fun h => by subst h; simp at hr1; exact hr1.symm
          have hm := w_row z r.z g e r.e r.l
          have hi' : (i : Int) < (r0 :: tl).length := by omega
          generalize r0 :: tl = ts at *
          cases hb : rowB g r.l
          · refine .stop (.ret [(4, iI 0), (5, iB false)]) (wpQ_way (q46_l0a _ _ z (syms g) e k _ z' (rws ts) e' _ i _) ?_) rfl ?_
            · rw [hb] at hm
              simp [-Bool.exists_bool, -getElem?_pos, hi', rws_at hr1, hm]
            · dsimp only; rw [hd]; simp [rowsF, hb, blkO]
          · have h48 := rowB_len hb
            rw [hb] at hm
            by_cases hn : termsN g r.l = termsN g r0.l
            · have hw : IntKind.wrap .i64 ((k : Int) + (r.l.length : Int)) = ((k + r.l.length : Nat) : Int) := by rw [wr _ (by omega) (by omega)]; omega
              refine .go (i + 1, k + r.l.length) (wpQ_way (q46_l0a _ _ z (syms g) e k _ z' (rws ts) e' _ i _) ?_) ⟨by dsimp only; omega, by dsimp only; omega⟩ (by dsimp only; omega) ?_
              · by_cases h0 : i = 0
                · simp [-Bool.exists_bool, -getElem?_pos, -Int.natCast_add, hi', rws_at hr1, hm, ints_len, hw, wr1 hi (by omega), hn, h0] at hr1 ⊢
                  subst h0
                  simp [-Bool.exists_bool, -getElem?_pos, -Int.natCast_add, hi', rws_at hr1, hm, ints_len, hw, wr1 hi (by omega), hn]
                  exact ⟨hi, wr _ (by omega) (by omega)⟩
                · simp [-Bool.exists_bool, -getElem?_pos, -Int.natCast_add, hi', rws_at hr1, hm, ints_len, hw, wr1 hi (by omega), hn, h0]
              · dsimp only; rw [hd]
                have h3 : rowsF g (termsN g r0.l) (r :: ts.drop (i + 1)) = rowsF g (termsN g r0.l) (ts.drop (i + 1)) := by simp [rowsF, hb, hn]
                rw [h3, lenR, ← Nat.add_assoc]
            · have h0 : ¬ i = 0 := fun h => hn (by rw [h0r h])
              have hn' : ¬ (termsN g r.l : Int) = termsN g r0.l := by omega
              refine .stop (.ret [(4, iI 0), (5, iB false)]) (wpQ_way (q46_l0a _ _ z (syms g) e k _ z' (rws ts) e' _ i _) ?_) rfl ?_
              · simp [-Bool.exists_bool, -getElem?_pos, hi', rws_at hr1, hm, h0, hn']
              · dsimp only; rw [hd]; simp [rowsF, hb, hn, blkO]
        · have e1 : i = (r0 :: tl).length := by omega
          have h0 : ¬ i = 0 := by simp at e1; omega
          refine .stop (.exit 0 [(0, iG z g e), (6, iI k), (7, iI (termsN g r0.l)), (12, iR z' (r0 :: tl) e'), (13, iI (r0 :: tl).length), (14, iI (r0 :: tl).length)]) (wpQ_way (q46_l0a _ _ z (syms g) e k _ z' (rws (r0 :: tl)) e' _ _ _) ?_) rfl ?_
          · subst e1; simp
          · subst e1; simp [blkO, rowsF, lenR]) x hx
    have h2 : evP F (Go.Ab.W F) (JW F d46 []) d46 [] [1,1,0,1] [(0, iG z g e), (6, iI 0), (7, iI 0), (12, iR z' (r0 :: tl) e'), (13, iI (r0 :: tl).length), (14, iI 0)] = _ := h1 (0, 0) ⟨Nat.zero_le _, Nat.le_refl _⟩
    rw [List.drop_zero, Nat.zero_add, ← hsp _ rfl] at h2
    generalize r0 :: tl = ts at *
    cases h : rowsB g ts
    · rw [h] at h2
      simp only [Bool.false_eq_true, if_false] at h2
      simp [-Bool.exists_bool, rws_len, h2]
    · rw [h] at h2
      simp only [if_true] at h2
      simp [-Bool.exists_bool, rws_len, h2]
theorem w_clmay (z : Bool) (g : List Sym) (e : List D) (c : Cl) : C 23 [iG z g e, iC c] = some (iB (clB g c), [iG z g e, iC c]) := by
  refine wfn (lk := []) rfl rfl (fnW_way (q23 _ _ z (syms g) e c.lz (lits c.ls) c.le c.tz (rws c.ts) c.te c.cz (lits c.cs) c.ce _) ?_)
  have h1 := w_may z g e
  cases hg : sigB g
  · simp [-Bool.exists_bool, h1, hg, clB]
  by_cases l1 : c.ls.length ≤ 5
  rotate_left
  · have l1' : 5 < (c.ls.length : Int) := by omega
    simp [-Bool.exists_bool, h1, hg, clB, lits_len, l1, l1']
  by_cases l2 : c.ts.length ≤ 3
  rotate_left
  · have l1' : ¬ 5 < (c.ls.length : Int) := by omega
    have l2' : 3 < (c.ts.length : Int) := by omega
    simp [-Bool.exists_bool, h1, hg, clB, lits_len, rws_len, l1, l1', l2, l2']
  by_cases l3 : c.cs.length ≤ 3
  rotate_left
  · have l1' : ¬ 5 < (c.ls.length : Int) := by omega
    have l2' : ¬ 3 < (c.ts.length : Int) := by omega
    have l3' : 3 < (c.cs.length : Int) := by omega
    simp [-Bool.exists_bool, h1, hg, clB, lits_len, rws_len, l1, l1', l2, l2', l3, l3']
  have l1' : ¬ 5 < (c.ls.length : Int) := by omega
  have l2' : ¬ 3 < (c.ts.length : Int) := by omega
  have l3' : ¬ 3 < (c.cs.length : Int) := by omega
  have h2 := w_litsmay z c.lz g e c.le (ls := c.ls) (by omega)
  have h3 := w_rowsmay z c.tz g e c.te (ts := c.ts) (by omega)
  have h4 := w_litsmay z c.cz g e c.ce (ls := c.cs) (by omega)
  cases b1 : litsB g c.ls
  · rw [b1] at h2
    cases b2 : rowsB g c.ts <;> cases b3 : litsB g c.cs <;> simp [-Bool.exists_bool, h1, hg, clB, lits_len, rws_len, l1, l1', l2, l2', l3, l3', h2, h3, h4, b1, b2, b3]
  cases b2 : rowsB g c.ts
  · rw [b2] at h3
    cases b3 : litsB g c.cs <;> simp [-Bool.exists_bool, h1, hg, clB, lits_len, rws_len, l1, l1', l2, l2', l3, l3', h2, h3, h4, b1, b2, b3]
  cases b3 : litsB g c.cs
  · simp [-Bool.exists_bool, h1, hg, clB, lits_len, rws_len, l1, l1', l2, l2', l3, l3', h2, h3, h4, b1, b2, b3]
  have k1 := lenL_le b1
  have k3 := lenL_le b3
  have k2 : lenR c.ts ≤ 48 * c.ts.length := by
    cases ht : c.ts with
    | nil => simp [lenR]
    | cons r tl => rw [ht] at b2; exact lenR_le b2
  rw [b1] at h2; rw [b2] at h3; rw [b3] at h4
  simp only [if_true] at h2 h3 h4
  have hw : IntKind.wrap .i64 (IntKind.wrap .i64 ((lenL c.ls : Int) + (lenR c.ts : Int)) + (lenL c.cs : Int)) = ((lenL c.ls + lenR c.ts + lenL c.cs : Nat) : Int) := by
    rw [wr ((lenL c.ls : Int) + (lenR c.ts : Int)) (by omega) (by omega), wr _ (by omega) (by omega)]; omega
  by_cases k : lenL c.ls + lenR c.ts + lenL c.cs ≤ 240
  · have k' : ((lenL c.ls + lenR c.ts + lenL c.cs : Nat) : Int) ≤ 240 := by omega
    simp [-Bool.exists_bool, -Int.natCast_add, h1, hg, clB, lits_len, rws_len, l1, l1', l2, l2', l3, l3', h2, h3, h4, b1, b2, b3, hw, k, k']
  · have k' : ¬ ((lenL c.ls + lenR c.ts + lenL c.cs : Nat) : Int) ≤ 240 := by omega
    simp [-Bool.exists_bool, -Int.natCast_add, h1, hg, clB, lits_len, rws_len, l1, l1', l2, l2', l3, l3', h2, h3, h4, b1, b2, b3, hw, k, k']
    omega
end Go.Proofs.YtjoibdmiolcodaaGreatDoor.Ab

/- Literals, clauses: what the reference's functions hand back; weights; copies. For every input; no condition. -/
set_option linter.unusedVariables false
set_option linter.unusedSimpArgs false
set_option maxRecDepth 100000
namespace Go.Proofs.YtjoibdmiolcodaaGreatDoor.Ab
open Go Go.Ab Go.Qu Go.Proofs
attribute [local simp] and_assoc
theorem atom_sig {g : List Sym} {a : List Int} (h : atomB g a = true) : sigB g = true := by
  cases a with
  | nil => simp [atomB] at h
  | cons p r =>
    simp only [atomB] at h
    split at h
    · cases h
    · split at h
      · cases h
      · simp only [Bool.and_eq_true] at h; exact h.1.2
theorem w_rlitmay (z : Bool) (g : List Sym) (e : List D) (b z' : Bool) (a : List Int) (e' : List D) : C 40 [iG z g e, iLit b z' a e'] = some (iB (atomB g a), [iG z g e, iLit b z' a e']) := by
  refine wfn (lk := []) rfl rfl (fnW_way (q40 _ _ z (syms g) e b z' (ints a) e' _) ?_)
  have h1 := w_rmay z g e
  cases hg : sigB g
  · have hb : atomB g a = false := by
      cases h : atomB g a
      · rfl
      · rw [atom_sig h] at hg; cases hg
    simp [-Bool.exists_bool, h1, hg, hb]
  have h2 := w_risatom hg z z' e e' a
  cases h : atomB g a <;> simp [-Bool.exists_bool, h1, hg, h2, h]
/-- All rows of a clause. -/
def rowsOf (c : Cl) : List Row := c.ls.map (·.r) ++ c.ts ++ c.cs.map (·.r)
theorem w_rrows {c : Cl} (l1 : c.ls.length ≤ 1000) (l2 : c.ts.length ≤ 1000) (l3 : c.cs.length ≤ 1000) : C 42 [iC c] = some (.own (rowsOf c).isEmpty 48 1 (rws (rowsOf c)), [iC c]) := by
  refine wfn (lk := []) rfl rfl (fnW_way (q42 _ _ c.lz (lits c.ls) c.le c.tz (rws c.ts) c.te c.cz (lits c.cs) c.ce _) ?_)
  have h1 := blk_fun (F := F) (d := d42) (lk := []) (p := [1,1,0,1,0,0]) (p0 := [1,1,0,1]) (id := 0) (by kernel_rfl) (st := fun (i : Nat) => [(1, .dbox 26 0 [.sl 2 c.lz (lits c.ls) c.le, .sl 1 c.tz (rws c.ts) c.te, .sl 2 c.cz (lits c.cs) c.ce]), (3, .own (c.ls.take i).isEmpty 48 1 (rws ((c.ls.take i).map (·.r)))), (4, iI i)]) (I := fun i => i ≤ c.ls.length) (μ := fun i => c.ls.length - i)
    (res := fun _ => .norm [(1, .dbox 26 0 [.sl 2 c.lz (lits c.ls) c.le, .sl 1 c.tz (rws c.ts) c.te, .sl 2 c.cz (lits c.cs) c.ce]), (3, .own c.ls.isEmpty 48 1 (rws (c.ls.map (·.r)))), (4, iI c.ls.length)])
    (fun i hi => by
      by_cases h : i < c.ls.length
      · obtain ⟨l, hl⟩ := at_lt h
        have e1 : c.ls.take (i + 1) = c.ls.take i ++ [l] := by rw [List.take_add_one, hl]; rfl
        have e2 : (rws ((c.ls.take i).map (·.r))).length = i := by rw [rws_len, List.length_map, List.length_take]; omega
        have hi' : (i : Int) < c.ls.length := by omega
        refine .go (i + 1) (wpQ_way (q42_l0a _ _ c.lz (lits c.ls) c.le c.tz (rws c.ts) c.te c.cz (lits c.cs) c.ce _ _ i _) ?_) h (by omega) rfl
        simp [-Bool.exists_bool, -getElem?_pos, -Int.natCast_add, -List.map_take, lits_len, hi', lits_at hl, wr1 h (by omega), e1, rws_append, rws_cons, rws_nil, e2]
        omega
      · have e1 : i = c.ls.length := by omega
        subst e1
        refine .stop (.exit 0 [(1, .dbox 26 0 [.sl 2 c.lz (lits c.ls) c.le, .sl 1 c.tz (rws c.ts) c.te, .sl 2 c.cz (lits c.cs) c.ce]), (3, .own c.ls.isEmpty 48 1 (rws (c.ls.map (·.r)))), (4, iI c.ls.length)]) (wpQ_way (q42_l0a _ _ c.lz (lits c.ls) c.le c.tz (rws c.ts) c.te c.cz (lits c.cs) c.ce _ _ _ _) ?_) rfl rfl
        simp [lits_len]) 0 (Nat.zero_le _)
  have h2 := blk_fun (F := F) (d := d42) (lk := []) (p := [1,1,1,0,1,0,0]) (p0 := [1,1,1,0,1]) (id := 2) (by kernel_rfl) (st := fun (i : Nat) => [(1, .dbox 26 0 [.sl 2 c.lz (lits c.ls) c.le, .sl 1 c.tz (rws c.ts) c.te, .sl 2 c.cz (lits c.cs) c.ce]), (3, .own (c.ls.isEmpty && (c.ts.take i).isEmpty) 48 1 (rws (c.ls.map (·.r) ++ c.ts.take i))), (5, iI i)]) (I := fun i => i ≤ c.ts.length) (μ := fun i => c.ts.length - i)
    (res := fun _ => .norm [(1, .dbox 26 0 [.sl 2 c.lz (lits c.ls) c.le, .sl 1 c.tz (rws c.ts) c.te, .sl 2 c.cz (lits c.cs) c.ce]), (3, .own (c.ls.isEmpty && c.ts.isEmpty) 48 1 (rws (c.ls.map (·.r) ++ c.ts))), (5, iI c.ts.length)])
    (fun i hi => by
      by_cases h : i < c.ts.length
      · obtain ⟨l, hl⟩ := at_lt h
        have e1 : c.ts.take (i + 1) = c.ts.take i ++ [l] := by rw [List.take_add_one, hl]; rfl
        have e2 : (rws (c.ls.map (·.r) ++ c.ts.take i)).length = c.ls.length + i := by rw [rws_len, List.length_append, List.length_map, List.length_take]; omega
        have hi' : (i : Int) < c.ts.length := by omega
        refine .go (i + 1) (wpQ_way (q42_l2b _ _ c.lz (lits c.ls) c.le c.tz (rws c.ts) c.te c.cz (lits c.cs) c.ce _ _ i _) ?_) h (by omega) rfl
        have e3 : rws (c.ls.map (·.r) ++ c.ts.take (i + 1)) = rws (c.ls.map (·.r) ++ c.ts.take i) ++ [.sl 1 l.z (ints l.l) l.e] := by rw [e1, ← List.append_assoc, rws_append]; rfl
        simp [-Bool.exists_bool, -getElem?_pos, -Int.natCast_add, -List.map_take, rws_len, hi', rws_at hl, wr1 h (by omega), e2, e3]
        exact ⟨by omega, by omega, fun _ he => by rw [he] at h; simp at h⟩
      · have e1 : i = c.ts.length := by omega
        subst e1
        refine .stop (.exit 2 [(1, .dbox 26 0 [.sl 2 c.lz (lits c.ls) c.le, .sl 1 c.tz (rws c.ts) c.te, .sl 2 c.cz (lits c.cs) c.ce]), (3, .own (c.ls.isEmpty && c.ts.isEmpty) 48 1 (rws (c.ls.map (·.r) ++ c.ts))), (5, iI c.ts.length)]) (wpQ_way (q42_l2b _ _ c.lz (lits c.ls) c.le c.tz (rws c.ts) c.te c.cz (lits c.cs) c.ce _ _ _ _) ?_) rfl rfl
        simp [rws_len]) 0 (Nat.zero_le _)
  have h3 := blk_fun (F := F) (d := d42) (lk := []) (p := [1,1,1,1,0,1,0,0]) (p0 := [1,1,1,1,0,1]) (id := 4) (by kernel_rfl) (st := fun (i : Nat) => [(1, .dbox 26 0 [.sl 2 c.lz (lits c.ls) c.le, .sl 1 c.tz (rws c.ts) c.te, .sl 2 c.cz (lits c.cs) c.ce]), (3, .own ((c.ls.isEmpty && c.ts.isEmpty) && (c.cs.take i).isEmpty) 48 1 (rws ((c.ls.map (·.r) ++ c.ts) ++ (c.cs.take i).map (·.r)))), (6, iI i)]) (I := fun i => i ≤ c.cs.length) (μ := fun i => c.cs.length - i)
    (res := fun _ => .norm [(1, .dbox 26 0 [.sl 2 c.lz (lits c.ls) c.le, .sl 1 c.tz (rws c.ts) c.te, .sl 2 c.cz (lits c.cs) c.ce]), (3, .own ((c.ls.isEmpty && c.ts.isEmpty) && c.cs.isEmpty) 48 1 (rws ((c.ls.map (·.r) ++ c.ts) ++ c.cs.map (·.r)))), (6, iI c.cs.length)])
    (fun i hi => by
      by_cases h : i < c.cs.length
      · obtain ⟨l, hl⟩ := at_lt h
        have e1 : c.cs.take (i + 1) = c.cs.take i ++ [l] := by rw [List.take_add_one, hl]; rfl
        have e2 : (rws ((c.ls.map (·.r) ++ c.ts) ++ (c.cs.take i).map (·.r))).length = c.ls.length + c.ts.length + i := by rw [rws_len, List.length_append, List.length_append, List.length_map, List.length_map, List.length_take]; omega
        have hi' : (i : Int) < c.cs.length := by omega
        refine .go (i + 1) (wpQ_way (q42_l4b _ _ c.lz (lits c.ls) c.le c.tz (rws c.ts) c.te c.cz (lits c.cs) c.ce _ _ i _) ?_) h (by omega) rfl
        have e3 : rws ((c.ls.map (·.r) ++ c.ts) ++ (c.cs.take (i + 1)).map (·.r)) = rws ((c.ls.map (·.r) ++ c.ts) ++ (c.cs.take i).map (·.r)) ++ [.sl 1 l.r.z (ints l.r.l) l.r.e] := by rw [e1, List.map_append, ← List.append_assoc, rws_append]; rfl
        simp [-Bool.exists_bool, -getElem?_pos, -Int.natCast_add, -List.map_take, -List.append_assoc, lits_len, hi', lits_at hl, wr1 h (by omega), e2, e3]
        exact ⟨by omega, by omega, fun _ _ he => by rw [he] at h; simp at h⟩
      · have e1 : i = c.cs.length := by omega
        subst e1
        refine .stop (.exit 4 [(1, .dbox 26 0 [.sl 2 c.lz (lits c.ls) c.le, .sl 1 c.tz (rws c.ts) c.te, .sl 2 c.cz (lits c.cs) c.ce]), (3, .own ((c.ls.isEmpty && c.ts.isEmpty) && c.cs.isEmpty) 48 1 (rws ((c.ls.map (·.r) ++ c.ts) ++ c.cs.map (·.r)))), (6, iI c.cs.length)]) (wpQ_way (q42_l4b _ _ c.lz (lits c.ls) c.le c.tz (rws c.ts) c.te c.cz (lits c.cs) c.ce _ _ _ _) ?_) rfl rfl
        simp [lits_len]) 0 (Nat.zero_le _)
  have h1' : evP F (Go.Ab.W F) (JW F d42 []) d42 [] [1,1,0,1] [(1, .dbox 26 0 [.sl 2 c.lz (lits c.ls) c.le, .sl 1 c.tz (rws c.ts) c.te, .sl 2 c.cz (lits c.cs) c.ce]), (3, .own true 48 1 []), (4, iI 0)] = _ := h1
  have h2' := h2
  simp only [List.take_zero, List.append_nil, List.isEmpty_nil, Bool.and_true, Int.natCast_zero] at h2'
  have h3' := h3
  simp only [List.take_zero, List.map_nil, List.append_nil, List.isEmpty_nil, Bool.and_true, Int.natCast_zero] at h3'
  have hz : (rowsOf c).isEmpty = ((c.ls.isEmpty && c.ts.isEmpty) && c.cs.isEmpty) := by
    unfold rowsOf
    cases c.ls <;> cases c.ts <;> cases c.cs <;> simp
  refine ⟨_, _, _, _, _, _, _, _, _, _, _, _, h1', _, _, _, _, _, _, _, _, _, _, _, _, h2', _, _, _, _, _, _, _, _, _, _, _, _, h3', ?_⟩
  rw [hz]; rfl
end Go.Proofs.YtjoibdmiolcodaaGreatDoor.Ab
