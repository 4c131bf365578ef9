/- What the rows of this seat share: the variable that is laid, the world in which it is so. No condition. -/
import Derived.Below
import Derived.ChangeOld
import Derived.LaidMore
import Derived.Lib.SmallJoins
import Derived.OpenShut
import Derived.ProofKit
import Derived.SevenTiedAt
import Derived.ShutString
import Derived.SizedLaws
import Derived.Stop.Joined
import Derived.Test.YtckhlalpnginjaaDoorCards
import Derived.Test.YtckhlalpnginjaaDoorRows
import Derived.Test.YtckhlalpnginjaaDoorTie
import Derived.WalkKit
import Derived.Test.YtckhlalpnginjaaDoorFactSet0
import Derived.Test.YtckhlalpnginjaaDoorFactSet1
import Derived.Test.YtckhlalpnginjaaDoorFactSet2
import Derived.Test.YtckhlalpnginjaaDoorFactSet3
import Derived.Test.YtckhlalpnginjaaDoorFactSet4
import Derived.Test.YtckhlalpnginjaaDoorFactSet5
import Derived.Test.YtckhlalpnginjaaDoorFactSet6
import Derived.Test.YtckhlalpnginjaaDoorFactSet7
import Derived.Test.YtckhlalpnginjaaDoorFactSet8
import Derived.Test.YtckhlalpnginjaaDoorFactSet9
import Derived.Test.YtckhlalpnginjaaDoorFactSet10
import Derived.Test.YtckhlalpnginjaaDoorFactSet11
import Derived.Test.YtckhlalpnginjaaDoorFactSet12
import Derived.Test.YtckhlalpnginjaaDoorFactSet13
import Derived.Test.YtckhlalpnginjaaDoorFactSet14
namespace Go.Proofs.YtckhlalpnginjaaDoor.Ab
open Go Go.Ab Go.Qu Go.Proofs Go.ChangeShapes Go.WideShapes Go.ChangeAt Go.RowKit Go.Joins
set_option linter.unusedVariables false
set_option maxRecDepth 100000
theorem own : ownKnob Tryd.prog.godebug = none := by kernel_rfl
theorem laidOut : laidOutB Tryd.prog = true := by kernel_rfl
abbrev laid1 : List (String × DataW Unit) := [("quaere/sign.equals", Rows.laid_quaere_sign_equals)]
theorem gEq : Tryd.prog.globalNamed "quaere/sign.equals" = some 0 := by kernel_rfl
theorem tEq : (Tryd.prog.globals[0]?).map (·.type) = some 68 := by kernel_rfl
theorem door_met (os : Os) (args : Array Value) : laidMetH Tryd.prog laid1 ((World.doorLaid Tryd.prog 400 os).forCall (fun _ _ => 0) ⟨#[], args, []⟩).memory :=
  laidMetH_of_parts3 (fuel := 8) (laidMet_of_run' 8 (by kernel_rfl) (by kernel_rfl)) (by kernel_rfl) (by kernel_rfl)
theorem globs {W : World} (h : laidMetH Tryd.prog laid1 W) : GlobOk (Hw W) F.G := by
  rw [MakeChecks.laidMetH_plain _ _ _ (by kernel_rfl)] at h
  obtain ⟨ps, ⟨g0, t0, cs0, f0, p0, q0, hg0, ht0, hv0, hd0, _, _⟩, _, _⟩ := h
  obtain rfl := Option.some.inj (gEq.symm.trans hg0)
  obtain rfl := Option.some.inj (tEq.symm.trans ht0)
  obtain ⟨xs, n, _, hx, hlen, hxl, hf⟩ := DataW.trod_struct Tryd.underlying68 hd0
  have c1 : Tryd.prog.cellsOf 68 = 4 := by kernel_rfl
  have cs : Tryd.prog.cellsOf 9 = 1 := by kernel_rfl
  have ci : Tryd.prog.cellsOf 3 = 1 := by kernel_rfl
  rw [c1] at hlen
  have hx1 : xs.map (·.1) = [.lit (.string [61]), .lit (.int .i64 0), .lit (.int .i64 2), .lit (.int .i64 1)] := by
    simp only [Prod.mk.injEq] at hx
    have h9 := hx.1
    unfold Rows.laid_quaere_sign_equals at h9
    simp only [DataW.agg.injEq] at h9
    exact h9.symm
  have hcs : ∃ a b c d, cs0.toList = [a, b, c, d] := by
    match h : cs0.toList, hlen with
    | [a, b, c, d], _ => exact ⟨a, b, c, d, rfl⟩
  obtain ⟨a, b, c, d, hcs⟩ := hcs
  have hxs : ∃ x0 x1 x2 x3, xs = [x0, x1, x2, x3] := by
    match xs, hxl with
    | [x0, x1, x2, x3], _ => exact ⟨x0, x1, x2, x3, rfl⟩
  obtain ⟨x0, x1, x2, x3, rfl⟩ := hxs
  simp only [List.map_cons, List.map_nil, List.cons.injEq, and_true] at hx1
  obtain ⟨e0, e1, e2, e3⟩ := hx1
  have h0 : DataW.trod (fun _ => ()) Tryd.prog W 0 (fun _ => true) false n 9 ((cs0.toList.drop 0).take (Tryd.prog.cellsOf 9)) = some x0 := hf 0 _ rfl
  have h1 : DataW.trod (fun _ => ()) Tryd.prog W 0 (fun _ => true) false n 3 ((cs0.toList.drop 1).take (Tryd.prog.cellsOf 3)) = some x1 := hf 1 _ rfl
  have h2 : DataW.trod (fun _ => ()) Tryd.prog W 0 (fun _ => true) false n 3 ((cs0.toList.drop 2).take (Tryd.prog.cellsOf 3)) = some x2 := hf 2 _ rfl
  have h3 : DataW.trod (fun _ => ()) Tryd.prog W 0 (fun _ => true) false n 3 ((cs0.toList.drop 3).take (Tryd.prog.cellsOf 3)) = some x3 := hf 3 _ rfl
  rw [hcs, cs] at h0
  rw [hcs, ci] at h1 h2 h3
  obtain ⟨s, ha, hs, _⟩ := DataW.trod_string Tryd.underlying9 h0
  obtain ⟨n1, hb, hn1, _⟩ := DataW.trod_int Tryd.underlying3 h1
  obtain ⟨n2, hc, hn2, _⟩ := DataW.trod_int Tryd.underlying3 h2
  obtain ⟨n3, hd, hn3, _⟩ := DataW.trod_int Tryd.underlying3 h3
  simp at ha hb hc hd
  rw [hs] at e0; rw [hn1] at e1; rw [hn2] at e2; rw [hn3] at e3
  simp at e0 e1 e2 e3
  subst ha hb hc hd e1 e2 e3
  have hse : s = "=".toUTF8 := by
    have h5 : "=".toUTF8.data.toList = [61] := by decide +kernel
    have h6 : s.data = "=".toUTF8.data := Array.toList_inj.1 (e0.trans h5.symm)
    exact (show ∀ (x y : ByteArray), x.data = y.data → x = y by intro ⟨_⟩ ⟨_⟩ h; exact congrArg _ h) _ _ h6
  subst hse
  have hcell : ∀ (j : Nat) u, [Value.string "=".toUTF8, .int .i64 0, .int .i64 2, .int .i64 1][j]? = some u → W.cell? ⟨0, j, none⟩ = some u := fun j u hj => by
    have h7 := World.var?_cell hg0 hv0 j
    have h8 : cs0[j]? = some u := by rw [← Array.getElem?_toList, hcs]; exact hj
    rw [h8] at h7
    simpa using h7
  intro g cs hg
  simp only [F, List.map_cons, List.map_nil, assoc] at hg
  split at hg
  · rename_i hg0
    subst hg0
    simp only [Option.some.injEq] at hg
    subst hg
    refine ⟨[.string "=".toUTF8, .int .i64 0, .int .i64 2, .int .i64 1], ?_, fun j u hj => ?_, by simp [D.isAgg]⟩
    · unfold D.RepL; refine ⟨[_], _, rfl, by unfold D.Rep; rfl, ?_⟩
      unfold D.RepL; refine ⟨[_], _, rfl, by unfold D.Rep; rfl, ?_⟩
      unfold D.RepL; refine ⟨[_], _, rfl, by unfold D.Rep; rfl, ?_⟩
      unfold D.RepL; refine ⟨[_], [], rfl, by unfold D.Rep; rfl, ?_⟩
      unfold D.RepL; rfl
    · refine Hw.cell ?_
      have h9 := hcell j u hj
      unfold Addr.add
      split
      · rename_i hj0; subst hj0; exact h9
      · simpa using h9
  · simp at hg
theorem fxOk : FxOk Tryd.prog F where
  orders := by kernel_rfl
  tab := tab_ok
  code := code_ok.get
  prim := fun f p args r outs h => by cases h
  ins := insAll
/-! ### Arguments -/
theorem good_sym {n : Nat} {x : D} (h : Go.Ab.Good Tryd.prog (n + 2) 68 x) : ∃ s : Sym, x = s.d := by
  unfold Go.Ab.Good at h
  rw [Tryd.underlying68] at h
  obtain ⟨ys, rfl, y0, r0, rfl, h0, y1, r1, rfl, h1, y2, r2, rfl, h2, y3, r3, rfl, h3, rfl⟩ := h
  unfold Go.Ab.Good at h0 h1 h2 h3
  simp only [Tryd.underlying9, Tryd.underlying3] at h0 h1 h2 h3
  obtain ⟨s, rfl, _⟩ := h0
  obtain ⟨a, rfl, _⟩ := h1
  obtain ⟨b, rfl, _⟩ := h2
  obtain ⟨c, rfl, _⟩ := h3
  exact ⟨⟨s, a, b, c⟩, rfl⟩
theorem good_sig {n : Nat} {x : D} (h : Go.Ab.Good Tryd.prog (n + 3) 22 x) : ∃ z g, x = .sl 4 z (syms g) [] := by
  unfold Go.Ab.Good at h
  rw [Tryd.underlying22] at h
  obtain ⟨z, xs, rfl, _, h2, _⟩ := h
  have hc : Tryd.prog.cellsOf 68 = 4 := by kernel_rfl
  rw [hc]
  obtain ⟨g, rfl, _⟩ := all_map (f := Sym.d) (Q := fun _ => True) (fun y hy => by obtain ⟨s, hs⟩ := good_sym (h2 y hy); exact ⟨s, hs, trivial⟩)
  exact ⟨z, g, rfl⟩
theorem good_int {n : Nat} {x : D} (h : Go.Ab.Good Tryd.prog (n + 1) 3 x) : ∃ a : Int, x = .int .i64 a ∧ -9223372036854775808 ≤ a ∧ a ≤ 9223372036854775807 := by
  unfold Go.Ab.Good at h
  rw [Tryd.underlying3] at h
  obtain ⟨a, rfl, hw⟩ := h
  refine ⟨a, rfl, ?_⟩
  simp [Lit.wf, IntKind.min, IntKind.max, IntKind.bits, IntKind.signed] at hw
  omega
theorem good_ints {n : Nat} {x : D} (h : Go.Ab.Good Tryd.prog (n + 2) 23 x) : ∃ z l, x = .sl 1 z (ints l) [] ∧ Len l := by
  unfold Go.Ab.Good at h
  rw [Tryd.underlying23] at h
  obtain ⟨z, xs, rfl, h1, h2, _⟩ := h
  have hc : Tryd.prog.cellsOf 3 = 1 := by kernel_rfl
  have hb : Tryd.prog.bytesOf 3 = 8 := by kernel_rfl
  rw [hb] at h1
  rw [hc]
  obtain ⟨l, rfl, _⟩ := all_map (f := D.int .i64) (Q := fun _ => True) (fun y hy => by obtain ⟨a, ha, _⟩ := good_int (h2 y hy); exact ⟨a, ha, trivial⟩)
  rw [List.length_map] at h1
  exact ⟨z, l, rfl, by unfold Len; simpa [reachBytes] using h1⟩
theorem good_rows {n : Nat} {x : D} (h : Go.Ab.Good Tryd.prog (n + 3) 24 x) : ∃ z rs, x = .sl 1 z (rws rs) [] ∧ rs.length * 24 ≤ 140737488351232 ∧ ∀ r ∈ rs, Len r.l := by
  unfold Go.Ab.Good at h
  rw [Tryd.underlying24] at h
  obtain ⟨z, xs, rfl, h1, h2, _⟩ := h
  have hc : Tryd.prog.cellsOf 23 = 1 := by kernel_rfl
  have hb : Tryd.prog.bytesOf 23 = 24 := by kernel_rfl
  rw [hb] at h1
  rw [hc]
  obtain ⟨rs, rfl, h4⟩ := all_map (f := Row.d) (Q := fun r => Len r.l) (fun y hy => by obtain ⟨z, l, h, hl⟩ := good_ints (h2 y hy); exact ⟨⟨z, l, []⟩, h, hl⟩)
  rw [List.length_map] at h1
  exact ⟨z, rs, rfl, by simpa [reachBytes] using h1, h4⟩
end Go.Proofs.YtckhlalpnginjaaDoor.Ab

/- Tables as arguments, tables that come out of putting and cutting. No condition. -/
set_option linter.unusedVariables false
set_option linter.unusedSimpArgs false
set_option maxRecDepth 100000
namespace Go.Proofs.YtckhlalpnginjaaDoor.Ab
open Go Go.Ab Go.Qu Go.Proofs
attribute [local simp] and_assoc
theorem w_awake : C 20 [] = some (iB true, []) := W_ev (n := 60) (by kernel_rfl)
theorem fl_fresh (fs : List Row) : fl (fs.map fresh) = fl fs := by simp [fl, fresh]
theorem good_ints' {n : Nat} {x : D} (h : Go.Ab.Good Tryd.prog (n + 2) 23 x) : ∃ z l, x = .sl 1 z (ints l) [] ∧ Len l ∧ (z = true → l = []) := by
  obtain ⟨z, l, rfl, hl⟩ := good_ints h
  refine ⟨z, l, rfl, hl, fun hz => ?_⟩
  unfold Go.Ab.Good at h
  rw [Tryd.underlying23] at h
  obtain ⟨z', xs, he, h1, h2, h3⟩ := h
  simp only [D.sl.injEq] at he
  obtain ⟨_, rfl, rfl, _⟩ := he
  have h4 := h3 hz
  have := congrArg List.length h4
  rw [ints_len] at this
  exact List.length_eq_zero_iff.1 this
theorem good_rows' {n : Nat} {x : D} (h : Go.Ab.Good Tryd.prog (n + 3) 24 x) : ∃ z rs, x = .sl 1 z (rws rs) [] ∧ rs.length * 24 ≤ 140737488351232 ∧ (∀ r ∈ rs, Len r.l ∧ NilOk r) ∧ (z = true → rs = []) := by
  unfold Go.Ab.Good at h
  rw [Tryd.underlying24] at h
  obtain ⟨z, xs, rfl, h1, h2, h3⟩ := h
  have hc : Tryd.prog.cellsOf 23 = 1 := by kernel_rfl
  have hb : Tryd.prog.bytesOf 23 = 24 := by kernel_rfl
  rw [hb] at h1
  rw [hc]
  obtain ⟨rs, rfl, h4⟩ := all_map (f := Row.d) (Q := fun r => Len r.l ∧ NilOk r) (fun y hy => by obtain ⟨z, l, h, hl, hz⟩ := good_ints' (h2 y hy); exact ⟨⟨z, l, []⟩, h, hl, hz⟩)
  rw [List.length_map] at h1
  exact ⟨z, rs, rfl, by simpa [reachBytes] using h1, h4, fun hz => List.map_eq_nil_iff.1 (h3 hz)⟩
theorem good_table' {n : Nat} {x : D} (h : Go.Ab.Good Tryd.prog (n + 4) 26 x) : ∃ zs sl zf fs, x = .agg [.sl 1 zs (ints sl) [], .sl 1 zf (rws fs) []] ∧ TabIn zs sl fs := by
  unfold Go.Ab.Good at h
  rw [Tryd.underlying26] at h
  obtain ⟨ys, rfl, y0, r0, rfl, h0, y1, r1, rfl, h1, rfl⟩ := h
  obtain ⟨zs, sl, rfl, hsl, hz⟩ := good_ints' h0
  obtain ⟨zf, fs, rfl, hfs, hr, _⟩ := good_rows' h1
  exact ⟨zs, sl, zf, fs, rfl, ⟨hsl, hfs, hr, hz⟩⟩
theorem tabIn_put {zs z' : Bool} {sl a : List Int} {fs : List Row} (T : TabIn zs sl fs) (h32 : sl.length = 32) (hl : fs.length < 24) (ha : Len a) (hz' : z' = true → a = []) (i : Nat) (x : Int) : TabIn zs (sl.set i x) (fs.map bare ++ [⟨z', a, []⟩]) := by
  refine ⟨by unfold Len; rw [List.length_set, h32]; decide, by rw [List.length_append, List.length_map]; simp; omega, fun r hr => ?_, fun hz => by rw [T.nil hz] at h32; simp at h32⟩
  rcases List.mem_append.1 hr with hr | hr
  · exact rows_bare T.rows r hr
  · simp at hr; subst hr; exact ⟨ha, hz'⟩
theorem tabIn_cut {zs : Bool} {sl : List Int} {fs : List Row} (T : TabIn zs sl fs) (h32 : sl.length = 32) {p : Nat} (hp : p < fs.length) {sl' : List Int} (hsl : sl'.length = 32) : TabIn zs sl' (outR fs p) := by
  have := T.most
  refine ⟨by unfold Len; omega, ?_, rows_outR T.rows hp, fun hz => by rw [T.nil hz] at h32; simp at h32⟩
  unfold outR
  rw [List.length_take, List.length_set, List.length_map]; omega
theorem cutS_len {sl : List Int} (h : sl.length = 32) (n p q r : Nat) : (cutS sl n p q r).length = 32 := by unfold cutS; split <;> simp [h]
theorem mod_u (i : Int) {n : Nat} (h0 : 0 < n) (h1 : n ≤ 1000000) : ∃ k : Nat, k < n ∧ Int.tmod (IntKind.wrap .u64 i) (IntKind.wrap .u64 (n : Int)) = (k : Int) := by
  have h2 : 0 ≤ IntKind.wrap .u64 i := by rw [IntKind.wrap_u64]; exact Int.emod_nonneg _ (by decide)
  have h3 : IntKind.wrap .u64 (n : Int) = n := by rw [IntKind.wrap_u64]; exact Int.emod_eq_of_lt (by omega) (by omega)
  rw [h3]
  generalize IntKind.wrap .u64 i = y at h2
  rw [Int.tmod_eq_emod_of_nonneg h2]
  have h4 := Int.emod_nonneg y (show (n : Int) ≠ 0 by omega)
  have h5 := Int.emod_lt_of_pos y (show (0 : Int) < n by omega)
  exact ⟨(y % n).toNat, by omega, by omega⟩
theorem u_pos {n : Nat} (h0 : 0 < n) (h1 : n ≤ 1000000) : ¬ IntKind.wrap .u64 (n : Int) = 0 := by
  rw [IntKind.wrap_u64, Int.emod_eq_of_lt (by omega) (by omega)]; omega
end Go.Proofs.YtckhlalpnginjaaDoor.Ab

/- Chapter 11's law FactSet: for every input the law returns true. No condition. -/
set_option linter.unusedVariables false
set_option linter.unusedSimpArgs false
set_option maxRecDepth 100000
namespace Go.Proofs.YtckhlalpnginjaaDoor.Ab
open Go Go.Ab Go.Qu Go.Proofs
attribute [local simp] and_assoc
theorem w_lawsame {rs : List Row} (hl : rs.length ≤ 100000000000) (hrows : ∀ r ∈ rs, Len r.l) (a : List Int) (z z' : Bool) (e e' : List D) : C 26 [iR z rs e, iS z' a e'] = some (iI (whereM (fl rs) a), [iR z rs e, iS z' a e']) := by
  refine wfn (lk := []) rfl rfl (fnW_way (q26 _ _ z (rws rs) e z' (ints a) e' _) ?_)
  rcases blk_find (F := F) (d := d26) (lk := []) (p := [1,0,1,0,0]) (p0 := [1,0,1]) (by kernel_rfl) (n := rs.length) (id := 0) (st := fun i => [(0, iR z rs e), (1, iS z' a e'), (5, iI i)]) (q := fun i => match rs[i]? with | some r => decide (r.l = a) | none => false) (rt := fun i => [(4, iI i)]) (e := [(0, iR z rs e), (1, iS z' a e'), (5, iI rs.length)])
    (fun i hi hq => by
      refine wpQ_way (q26_l0a _ _ z (rws rs) e z' (ints a) e' i _) ?_
      obtain ⟨r, hr⟩ := at_lt hi
      rw [hr] at hq
      have hs := w_sameints (hrows r (List.mem_of_getElem? hr)) a r.z z' r.e e'
      rw [show decide (r.l = a) = false from hq] at hs
      rw [rws_len, condW_d, if_pos (by omega), condW_d, if_pos (by omega), Int.toNat_natCast]
      refine ⟨_, _, _, rws_at hr, _, _, _, hs, ?_⟩
      rw [condW_ff, wr1 hi (by omega)])
    (fun i hi hq => by
      refine wpQ_way (q26_l0a _ _ z (rws rs) e z' (ints a) e' i _) ?_
      obtain ⟨r, hr⟩ := at_lt hi
      rw [hr] at hq
      have hs := w_sameints (hrows r (List.mem_of_getElem? hr)) a r.z z' r.e e'
      rw [show decide (r.l = a) = true from hq] at hs
      rw [rws_len, condW_d, if_pos (by omega), condW_d, if_pos (by omega), Int.toNat_natCast]
      refine ⟨_, _, _, rws_at hr, _, _, _, hs, ?_⟩
      rw [condW_tt])
    (wpQ_way (q26_l0a _ _ z (rws rs) e z' (ints a) e' rs.length _) (by rw [rws_len, condW_d, if_neg (by omega)])) 0 (Nat.zero_le _) with ⟨h2, h3⟩ | ⟨j, h1, h2, h4, h5, h3⟩
  · have hf : whereM (fl rs) a = -1 := by
      rcases whereM_is (fl rs) a with ⟨_, h⟩ | ⟨j, hj, _⟩
      · exact h
      · have hjl := lt_at hj
        rw [fl_len] at hjl
        obtain ⟨r, hr⟩ := at_lt hjl
        have := h2 j (Nat.zero_le _) hjl
        rw [hr] at this
        rw [fl_at hr] at hj
        simp at this hj
        exact absurd hj this
    rw [hf]
    simp at h3
    exact Or.inr ⟨_, _, _, _, _, _, _, h3, rfl⟩
  · obtain ⟨r, hr⟩ := at_lt h2
    rw [hr] at h4
    have h4' : r.l = a := by simpa using h4
    have hf : whereM (fl rs) a = (j : Int) := by
      rcases whereM_is (fl rs) a with ⟨hn, _⟩ | ⟨k, hk, hk2, hk3⟩
      · exact absurd (List.mem_of_getElem? (by rw [fl_at hr, h4'])) hn
      · rw [hk2]
        have hkl := lt_at hk
        rw [fl_len] at hkl
        obtain ⟨s, hs⟩ := at_lt hkl
        rcases Nat.lt_trichotomy k j with h | h | h
        · have := h5 k (Nat.zero_le _) h
          rw [hs] at this
          rw [fl_at hs] at hk
          simp at this hk
          exact absurd hk this
        · rw [h]
        · exact absurd (by rw [fl_at hr, h4']) (hk3 j h)
    rw [hf]
    simp at h3
    exact Or.inl ⟨_, h3, rfl⟩
end Go.Proofs.YtckhlalpnginjaaDoor.Ab

/- Chapter 11's law FactSet: for every input the law returns true. No condition. -/
set_option linter.unusedVariables false
set_option linter.unusedSimpArgs false
set_option maxRecDepth 100000
namespace Go.Proofs.YtckhlalpnginjaaDoor.Ab
open Go Go.Ab Go.Qu Go.Proofs
attribute [local simp] and_assoc
theorem wpQ_has {J : Jt} {d : FnD} {lk p : List Nat} {s : Sl} {L : Lps} {Q : Out → Prop} (h : wpQ F (Go.Ab.W F) R L J d lk p s Q) : ∃ o, evP F (Go.Ab.W F) J d lk p s = some o ∧ Q o := wpS_run _ h
theorem mod_u2 (i : Int) {n : Nat} (h0 : 0 < n) (h1 : n ≤ 9223372036854775807) : ∃ k : Nat, k < n ∧ Int.tmod (IntKind.wrap .u64 i) (IntKind.wrap .u64 (n : Int)) = (k : Int) := by
  have h2 : 0 ≤ IntKind.wrap .u64 i := by rw [IntKind.wrap_u64]; exact Int.emod_nonneg _ (by decide)
  have h3 : IntKind.wrap .u64 (n : Int) = n := by rw [IntKind.wrap_u64]; exact Int.emod_eq_of_lt (by omega) (by omega)
  rw [h3]
  generalize IntKind.wrap .u64 i = y at h2
  rw [Int.tmod_eq_emod_of_nonneg h2]
  have h4 := Int.emod_nonneg y (show (n : Int) ≠ 0 by omega)
  have h5 := Int.emod_lt_of_pos y (show (0 : Int) < n by omega)
  exact ⟨(y % n).toNat, by omega, by omega⟩
theorem u_pos2 {n : Nat} (h0 : 0 < n) (h1 : n ≤ 9223372036854775807) : (!(IntKind.wrap .u64 (n : Int) == 0)) = true := by
  rw [IntKind.wrap_u64, Int.emod_eq_of_lt (by omega) (by omega)]; simp; omega
structure SS where
  zs : Bool
  sl : List Int
  zf : Bool
  fs : List Row
  zt : Bool
  th : List Row
  i : Nat
/-- The table's facts are the row of what is there. -/
structure SInv (g : List Sym) (x : SS) : Prop where
  T : TabIn x.zs x.sl x.fs
  t : TblOk g x.sl (fl x.fs)
  e : fl x.th = fl x.fs
  r : ∀ r ∈ x.th, Len r.l
theorem SInv.len {g : List Sym} {x : SS} (h : SInv g x) : x.th.length = x.fs.length ∧ x.fs.length ≤ 24 := by
  have h1 := congrArg List.length h.e
  rw [fl_len, fl_len] at h1
  have h2 := h.t.most
  rw [fl_len] at h2
  exact ⟨h1, h2⟩
abbrev stS (z : Bool) (g : List Sym) (z4 : Bool) (az : List Row) (z7 : Bool) (ops : List Int) (x : SS) : Sl := [(0, iG z g []), (1, iR z4 az []), (2, iS z7 ops []), (7, .ptr 26 0 [.d (.sl 1 x.zs (ints x.sl) []), .d (.sl 1 x.zf (rws x.fs) [])]), (8, .own x.zt 23 1 (rws x.th)), (9, iI x.i)]
theorem rows_set {th : List Row} (h : ∀ r ∈ th, Len r.l) {p : Nat} {x : Row} (hx : x ∈ th) (m : Nat) : ∀ r ∈ (th.set p x).take m, Len r.l := fun r hr => by
  rcases List.mem_or_eq_of_mem_set (List.mem_of_mem_take hr) with h1 | rfl
  · exact h r h1
  · exact h r hx
theorem set_turn {g : List Sym} {x : SS} (I : SInv g x) (z z4 z7 : Bool) {az : List Row} {ops : List Int} (ha : ∀ r ∈ az, Len r.l ∧ NilOk r) (hal : az.length ≤ 9223372036854775807) (hi : x.i < ops.length) (h60 : x.i < 60) (h0 : 0 < az.length) {Q : Out → Prop}
    (hQ : ∀ x', SInv g x' → x'.i = x.i + 1 → Q (.norm (stS z g z4 az z7 ops x'))) : wpQ F (Go.Ab.W F) R L5 (JW F d5 []) d5 [] [1,1,1,1,1,0,1,0,0] (stS z g z4 az z7 ops x) Q := by
  obtain ⟨zs, sl, zf, fs, zt, th, i⟩ := x
  have hlen := I.len
  obtain ⟨T, t, he, hr⟩ := I
  dsimp only at T t he hr hi h60 hQ hlen
  rw [q5_l0a]
  dsimp only
  have hop := Go.Ab.ints_at hi
  obtain ⟨j, hj, hje⟩ := mod_u2 (IntKind.wrap .i64 (Int.tdiv (gi ops i) 4)) h0 hal
  have hwj : IntKind.wrap .i64 (j : Int) = j := wr _ (by omega) (by omega)
  obtain ⟨ra, hra⟩ := at_lt hj
  obtain ⟨hra1, hra2⟩ := ha ra (List.mem_of_getElem? hra)
  have hwi : IntKind.wrap .i64 ((i : Int) + 1) = ((i + 1 : Nat) : Int) := wr1 h60 (by omega)
  have hthl : (rws th).length = fs.length := by rw [rws_len]; exact hlen.1
  rw [ints_len, rws_len, condW_d, if_pos (by omega), condW_d, if_pos (by omega), condW_d, if_pos (by omega), condW_d, if_pos (by omega), Int.toNat_natCast]
  refine ⟨_, hop, ?_⟩
  rw [u_pos2 h0 hal, condW_tt, hje, hwj, condW_d, if_pos (by omega), Int.toNat_natCast]
  have hsame := w_lawsame (rs := th) (by omega) hr ra.l zt ra.z [] ra.e
  rw [he] at hsame
  refine ⟨_, _, _, rws_at hra, _, _, _, hsame, _, _, _, _, w_fhash z ra.z g [] ra.e ra.l, _, _, w_num _, ?_⟩
  rw [hwi]
  cases hf : factB g ra.l
  · rw [show ((if false = true then (0 : Int) else 1100) != 0) = true from rfl, condW_tt]
    exact hQ ⟨zs, sl, zf, fs, zt, th, i + 1⟩ ⟨T, t, he, hr⟩ rfl
  rw [show ((if true = true then (0 : Int) else 1100) != 0) = false from rfl, condW_ff]
  have hhas := has_in (z := z) (z' := ra.z) (e := []) (e' := ra.e) (zf := zf) (es := []) (ef := []) T t hf
  refine ⟨_, _, _, _, _, hhas, ?_⟩
  have hwhere := whereM_is (fl fs) ra.l
  have Tb : TabIn zs sl (fs.map bare) := ⟨T.len, by rw [List.length_map]; exact T.most, rows_bare T.rows, T.nil⟩
  have tb : TblOk g sl (fl (fs.map bare)) := by rw [fl_bare]; exact t
  have heb : fl th = fl (fs.map bare) := by rw [fl_bare]; exact he
  by_cases hm : ra.l ∈ fl fs
  · obtain ⟨p, hp, hp2, _⟩ : ∃ p : Nat, (fl fs)[p]? = some ra.l ∧ whereM (fl fs) ra.l = (p : Int) ∧ True := by
      rcases hwhere with ⟨h, _⟩ | ⟨p, h1, h2, _⟩
      · exact absurd hm h
      · exact ⟨p, h1, h2, trivial⟩
    have hpl : p < fs.length := by have := lt_at hp; rwa [fl_len] at this
    rw [decide_eq_true hm, condW_tt, hp2]
    refine ⟨_, _, w_num _, ?_⟩
    rw [show ((0 : Int) != 0) = false from rfl, condW_ff, condW_d, if_pos (by omega), condW_d, if_pos (by omega), Int.toNat_natCast]
    refine ⟨_, hop, ?_⟩
    rw [condW_d]
    by_cases h3 : gi ops i % 4 < 3
    · rw [if_pos h3]
      have hput := w_put_is (z := z) (z' := ra.z) (e := []) (e' := ra.e) (zf := zf) (es := []) (ef := []) T t hf hm
      refine ⟨_, _, _, _, _, _, _, _, _, hput, ?_⟩
      rw [condW_ff, condW_d, if_neg (by omega)]
      refine ⟨_, _, w_num _, ?_⟩
      rw [show ((0 : Int) != 0) = false from rfl, condW_ff, condW_d, if_neg (by omega)]
      exact hQ ⟨zs, sl, fs.isEmpty, fs.map bare, zt, th, i + 1⟩ ⟨Tb, tb, heb, hr⟩ rfl
    · rw [if_neg h3]
      obtain ⟨q, r, hq1, hq2, hq3, hq4, hcut⟩ := w_cut_yes T t hf hp
      refine Or.inl ⟨_, _, _, _, _, _, _, _, _, _, hcut z ra.z zf [] ra.e [] [], ?_⟩
      have h32 := t.len
      have hout := cutS_tbl t hpl hq1 hq2 hq3 hq4
      have Tc : TabIn zs (cutS sl fs.length p q r) (outR fs p) := tabIn_cut T h32 hpl (cutS_len h32 _ _ _ _)
      rw [condW_tt]
      refine ⟨_, _, w_num _, ?_⟩
      obtain ⟨rl, hrl⟩ := at_lt (l := th) (i := fs.length - 1) (by omega)
      obtain ⟨rp, hrp⟩ := at_lt (l := th) (i := p) (by omega)
      have hwl : IntKind.wrap .i64 (((fs.length : Nat) : Int) - 1) = ((fs.length - 1 : Nat) : Int) := by rw [wr _ (by omega) (by omega)]; omega
      rw [show ((0 : Int) != 0) = false from rfl, condW_ff, condW_d, if_pos (by omega), hthl, hwl, condW_d, if_pos (by omega), Int.toNat_natCast]
      refine ⟨_, rws_at hrl, _, _, _, rws_at hrl, ?_⟩
      rw [condW_d, if_pos (by omega)]
      refine ⟨_, rws_at hrp, _, _, _, rws_at hrp, ?_⟩
      have hset : (rws th).set p (.sl 1 rl.z (ints rl.l) rl.e) = rws (th.set p rl) := rws_set th p rl
      rw [hset, rws_len, List.length_set, hlen.1, hwl, condW_d, if_pos (by omega), condW_d, if_pos (by omega), Int.toNat_natCast, rws_take]
      refine hQ ⟨zs, cutS sl fs.length p q r, false, outR fs p, zt, (th.set p rl).take (fs.length - 1), i + 1⟩ ⟨Tc, by rw [fl_outR fs hpl]; exact hout, ?_, rows_set hr (List.mem_of_getElem? hrl) _⟩ rfl
      rw [fl_outR fs hpl, ← he, ← hlen.1]
      unfold outF fl
      rw [List.map_take, List.map_set, List.length_map]
      have hg : (th.map fun x => x.l).getD (th.length - 1) [] = rl.l := by
        rw [List.getD_eq_getElem?_getD, List.getElem?_map]
        rw [← hlen.1] at hrl
        rw [hrl]; rfl
      rw [hg]
  · obtain ⟨_, hw⟩ : True ∧ whereM (fl fs) ra.l = -1 := by
      rcases hwhere with ⟨_, h⟩ | ⟨p, h1, _⟩
      · exact ⟨trivial, h⟩
      · exact absurd (List.mem_of_getElem? h1) hm
    rw [decide_eq_false hm, condW_ff, hw]
    refine ⟨_, _, w_num _, ?_⟩
    rw [show ((0 : Int) != 0) = false from rfl, condW_ff, condW_d, if_neg (by omega), condW_d, if_pos (by omega)]
    refine ⟨_, hop, ?_⟩
    rw [condW_d]
    by_cases h3 : gi ops i % 4 < 3
    · rw [if_pos h3]
      by_cases h24 : fs.length = 24
      · have hput := w_put_full (z := z) (z' := ra.z) (e := []) (e' := ra.e) (zf := zf) (es := []) (ef := []) T t hf hm h24
        refine ⟨_, _, _, _, _, _, _, _, _, hput, ?_⟩
        rw [condW_ff, condW_d, if_pos (by omega), hthl, h24, show (((24 : Nat) : Int) == 24) = true from rfl, condW_tt]
        refine ⟨_, _, w_num _, ?_⟩
        rw [show ((1101 : Int) != 1101) = false from rfl, condW_ff]
        exact hQ ⟨zs, sl, zf, fs, zt, th, i + 1⟩ ⟨T, t, he, hr⟩ rfl
      · have hput := w_put_new (z := z) (z' := ra.z) (e := []) (e' := ra.e) (zf := zf) (es := []) (ef := []) T t hf hm (by omega) hra2
        refine ⟨_, _, _, _, _, _, _, _, _, hput, ?_⟩
        have hne : (((fs.length : Nat) : Int) == 24) = false := by simp; omega
        rw [condW_tt, condW_d, if_pos (by omega), hthl, hne, condW_ff]
        refine ⟨_, _, w_num _, ?_⟩
        rw [show ((0 : Int) != 0) = false from rfl, condW_ff, condW_d, if_pos (by omega)]
        refine ⟨_, _, _, w_copyints hra1 ra.z ra.e, ?_⟩
        rw [condW_d, if_pos (by omega), condW_d, if_pos (by omega)]
        obtain ⟨m, m1, m2, m3, m4, m5⟩ := freeM_is t ra.l
        have Tp : TabIn zs (sl.set (freeM sl ra.l) fs.length) (fs.map bare ++ [⟨ra.z, ra.l, []⟩]) := tabIn_put T t.len (by omega) hra1 hra2 _ _
        have tp : TblOk g (sl.set (freeM sl ra.l) fs.length) (fl fs ++ [ra.l]) := by
          rw [m2]
          have := put_tbl t hf hm (by rw [fl_len]; omega) m1 m4 m5
          rw [fl_len] at this; exact this
        have hfp : fl (fs.map bare ++ [(⟨ra.z, ra.l, []⟩ : Row)]) = fl fs ++ [ra.l] := by
          rw [← fl_bare fs]; simp [fl]
        have e1 : rws th ++ [D.sl 1 false (ints ra.l) []] = rws (th ++ [⟨false, ra.l, []⟩]) := by rw [rws_append]; rfl
        rw [e1]
        refine hQ ⟨zs, sl.set (freeM sl ra.l) fs.length, false, fs.map bare ++ [⟨ra.z, ra.l, []⟩], zt && false, th ++ [⟨false, ra.l, []⟩], i + 1⟩ ⟨Tp, by rw [hfp]; exact tp, ?_, fun r hr' => ?_⟩ rfl
        · rw [hfp, ← he]; simp [fl]
        · rcases List.mem_append.1 hr' with h | h
          · exact hr r h
          · simp at h; subst h; exact hra1
    · rw [if_neg h3]
      have hcut := w_cut_not (z := z) (z' := ra.z) (e := []) (e' := ra.e) (zf := zf) (es := []) (ef := []) T t hf hm
      refine Or.inr ⟨_, _, _, _, _, _, _, _, _, hcut, ?_⟩
      rw [condW_ff]
      refine ⟨_, _, w_num _, ?_⟩
      rw [show ((0 : Int) != 0) = false from rfl, condW_ff, condW_d, if_neg (by omega)]
      exact hQ ⟨zs, sl, fs.isEmpty, fs.map bare, zt, th, i + 1⟩ ⟨Tb, tb, heb, hr⟩ rfl
theorem where_self {g : List Sym} {sl : List Int} {fs : List (List Int)} (t : TblOk g sl fs) {i : Nat} {a : List Int} (h : fs[i]? = some a) : whereM fs a = (i : Int) := by
  rcases whereM_is fs a with ⟨hn, _⟩ | ⟨j, h1, h2, _⟩
  · exact absurd (List.mem_of_getElem? h) hn
  · obtain ⟨m, m1, m2, m3⟩ := TblOk.slot t h
    obtain ⟨k, k1, k2, k3⟩ := TblOk.slot t h1
    have e1 : probe (hashM a).toNat m = probe (hashM a).toNat k := by rw [m2] at k2; omega
    rw [h2]
    rw [e1, k3] at m3
    exact m3
theorem set_loop {g : List Sym} (z z4 z7 : Bool) {az : List Row} {ops : List Int} (ha : ∀ r ∈ az, Len r.l ∧ NilOk r) (hal : az.length ≤ 9223372036854775807) : ∀ x : SS, (SInv g x ∧ x.i ≤ 60) →
    ∃ o, evP F (Go.Ab.W F) (JW F d5 []) d5 [] [1,1,1,1,1,0,1] (stS z g z4 az z7 ops x) = some o ∧ ∃ x', SInv g x' ∧ o = .norm (stS z g z4 az z7 ops x') :=
  blk_rule (F := F) (d := d5) (lk := []) (p := [1,1,1,1,1,0,1,0,0]) (p0 := [1,1,1,1,1,0,1]) 0 (by kernel_rfl) (stS z g z4 az z7 ops) (fun x => SInv g x ∧ x.i ≤ 60) (fun x => 60 - x.i) (fun _ o => ∃ x', SInv g x' ∧ o = .norm (stS z g z4 az z7 ops x')) (fun x hx => by
    obtain ⟨hI, h60⟩ := hx
    have stop : wpQ F (Go.Ab.W F) R L5 (JW F d5 []) d5 [] [1,1,1,1,1,0,1,0,0] (stS z g z4 az z7 ops x) (fun o => o = .exit 0 (stS z g z4 az z7 ops x)) → ∃ o, evP F (Go.Ab.W F) (JW F d5 []) d5 [] [1,1,1,1,1,0,1,0,0] (stS z g z4 az z7 ops x) = some o ∧ o.isNorm = false ∧ ∃ x', SInv g x' ∧ blkO 0 o = .norm (stS z g z4 az z7 ops x') := fun h =>
      ⟨_, wpQ_way rfl h, rfl, x, hI, rfl⟩
    by_cases c1 : x.i < ops.length
    · by_cases c2 : x.i < 60
      · by_cases c3 : 0 < az.length
        · obtain ⟨o, h1, x', h2, h3, rfl⟩ := wpQ_has (set_turn hI z z4 z7 ha hal c1 c2 c3 (Q := fun o => ∃ x', SInv g x' ∧ x'.i = x.i + 1 ∧ o = .norm (stS z g z4 az z7 ops x')) (fun x' h2 h3 => ⟨x', h2, h3, rfl⟩))
          exact .inl ⟨x', h1, ⟨h2, by omega⟩, by omega, fun o h => h⟩
        · refine .inr (stop ?_)
          rw [q5_l0a, ints_len, rws_len, condW_d, if_pos (by omega), condW_d, if_pos (by omega), condW_d, if_neg (by omega)]
      · refine .inr (stop ?_)
        rw [q5_l0a, ints_len, rws_len, condW_d, if_pos (by omega), condW_d, if_neg (by omega)]
    · refine .inr (stop ?_)
      rw [q5_l0a, ints_len, rws_len, condW_d, if_neg (by omega)])
theorem law_set (z : Bool) (g : List Sym) (z4 z7 : Bool) {az : List Row} {ops : List Int} (ha : ∀ r ∈ az, Len r.l ∧ NilOk r) (hal : az.length ≤ 9223372036854775807) : C 5 [iG z g [], iR z4 az [], iS z7 ops []] = some (iB true, [iG z g [], iR z4 az [], iS z7 ops []]) := by
  refine wfn (lk := []) rfl rfl (fnW_way (q5 _ _ z (syms g) [] z4 (rws az) [] z7 (ints ops) [] _) ?_)
  refine ⟨_, w_awake, ?_⟩
  rw [condW_tt]
  have T0 : TabIn false (List.replicate 32 (-1)) [] := ⟨by unfold Len; simp, by simp, by simp, by simp⟩
  have hmay := w_tmay false true [] [] T0.len T0.most (tabIn_r1 T0) z g []
  refine ⟨_, _, w_new, _, _, _, hmay, ?_⟩
  cases ht : tblB g (List.replicate 32 (-1)) (fl [])
  · rfl
  rw [condW_tt]
  have hI : SInv g ⟨false, List.replicate 32 (-1), true, [], true, [], 0⟩ := ⟨T0, tblB_ok.1 ht, rfl, by simp⟩
  obtain ⟨o, h1, x, hx, rfl⟩ := set_loop z z4 z7 ha hal ⟨false, List.replicate 32 (-1), true, [], true, [], 0⟩ ⟨hI, Nat.zero_le _⟩ (ops := ops)
  have hlen := SInv.len hx
  refine Or.inr ⟨_, _, _, _, _, _, _, _, _, _, _, _, _, _, _, _, _, _, h1, ?_⟩
  rw [rws_len, rws_len, hlen.1, show (((x.fs.length : Nat) : Int) != ((x.fs.length : Nat) : Int)) = false by simp, condW_ff]
  obtain ⟨zs, sl, zf, fs, zt, th, i⟩ := x
  obtain ⟨T, t, he, hr⟩ := hx
  dsimp only at T t he hr hlen
  have h2 := fun i hi => blk_fun (F := F) (d := d5) (lk := []) (p := [1,1,1,1,1,1,1,0,1,0,0]) (p0 := [1,1,1,1,1,1,1,0,1]) (id := 2) (by kernel_rfl) (st := fun (i : Nat) => [(0, iG z g []), (7, .ptr 26 0 [.d (.sl 1 zs (ints sl) []), .d (.sl 1 zf (rws fs) [])]), (8, .own zt 23 1 (rws th)), (22, iI i)]) (I := fun i => i ≤ th.length) (μ := fun i => th.length - i)
    (res := fun _ => .norm [(0, iG z g []), (7, .ptr 26 0 [.d (.sl 1 zs (ints sl) []), .d (.sl 1 zf (rws fs) [])]), (8, .own zt 23 1 (rws th)), (22, iI th.length)])
    (fun i hi => by
      by_cases h : i < th.length
      · obtain ⟨r, hr1⟩ := at_lt h
        have hat : (fl fs)[i]? = some r.l := by rw [← he]; exact fl_at hr1
        have hs := w_lawsame (rs := fs) (by omega) (tabIn_r1 T) r.l zf r.z [] r.e
        rw [where_self t hat] at hs
        refine .go (i + 1) (wpQ_way (q5_l2a _ _ z (syms g) [] zs (ints sl) [] zf (rws fs) [] zt (rws th) i _) ?_) h (by omega) rfl
        rw [rws_len, condW_d, if_pos (by omega), condW_d, if_pos (by omega), Int.toNat_natCast]
        refine ⟨_, rws_at hr1, _, _, _, rws_at hr1, _, _, _, hs, ?_⟩
        rw [show (((i : Nat) : Int) != ((i : Nat) : Int)) = false by simp, condW_ff, wr1 h (by omega)]
      · have e1 : i = th.length := by omega
        subst e1
        refine .stop (.exit 2 [(0, iG z g []), (7, .ptr 26 0 [.d (.sl 1 zs (ints sl) []), .d (.sl 1 zf (rws fs) [])]), (8, .own zt 23 1 (rws th)), (22, iI th.length)]) (wpQ_way (q5_l2a _ _ z (syms g) [] zs (ints sl) [] zf (rws fs) [] zt (rws th) th.length _) ?_) rfl rfl
        rw [rws_len, condW_d, if_neg (by omega)]) i hi
  refine Or.inr ⟨_, _, _, _, _, _, _, _, _, _, _, _, h2 0 (Nat.zero_le _), ?_⟩
  have hm2 := w_tmay zs zf [] [] T.len T.most (tabIn_r1 T) z g []
  rw [tblB_ok.2 t] at hm2
  exact ⟨_, _, _, hm2, by rw [condW_tt]⟩
theorem call_set (y0 y1 y2 : D) (h0 : Go.Ab.Good Tryd.prog 12 22 y0) (h1 : Go.Ab.Good Tryd.prog 12 24 y1) (h2 : Go.Ab.Good Tryd.prog 12 23 y2) : ∃ outs, C 5 [.d y0, .d y1, .d y2] = some (iB true, outs) := by
  obtain ⟨z, g, rfl⟩ := good_sig h0
  obtain ⟨z4, az, rfl, h3, h4, _⟩ := good_rows' h1
  obtain ⟨z7, ops, rfl, _⟩ := good_ints h2
  exact ⟨_, law_set z g z4 z7 h4 (by omega)⟩
end Go.Proofs.YtckhlalpnginjaaDoor.Ab
