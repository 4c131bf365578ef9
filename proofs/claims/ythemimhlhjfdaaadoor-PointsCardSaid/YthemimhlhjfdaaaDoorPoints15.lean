/- What the rows of this seat share: the variable that is laid, the world in which it is so. No condition. -/
import Derived.Below
import Derived.ChangeOld
import Derived.LaidMore
import Derived.Lib.SmallJoins
import Derived.OpenShut
import Derived.ProofKit
import Derived.SevenTiedAt
import Derived.ShutString
import Derived.SizedLaws
import Derived.Stop.Joined
import Derived.Test.YthemimhlhjfdaaaDoorCards
import Derived.Test.YthemimhlhjfdaaaDoorRows
import Derived.Test.YthemimhlhjfdaaaDoorTie
import Derived.WalkKit
import Derived.Test.YthemimhlhjfdaaaDoorPoints0
import Derived.Test.YthemimhlhjfdaaaDoorPoints1
import Derived.Test.YthemimhlhjfdaaaDoorPoints2
import Derived.Test.YthemimhlhjfdaaaDoorPoints3
import Derived.Test.YthemimhlhjfdaaaDoorPoints4
import Derived.Test.YthemimhlhjfdaaaDoorPoints5
import Derived.Test.YthemimhlhjfdaaaDoorPoints6
import Derived.Test.YthemimhlhjfdaaaDoorPoints7
import Derived.Test.YthemimhlhjfdaaaDoorPoints8
import Derived.Test.YthemimhlhjfdaaaDoorPoints9
import Derived.Test.YthemimhlhjfdaaaDoorPoints10
import Derived.Test.YthemimhlhjfdaaaDoorPoints11
import Derived.Test.YthemimhlhjfdaaaDoorPoints12
import Derived.Test.YthemimhlhjfdaaaDoorPoints13
import Derived.Test.YthemimhlhjfdaaaDoorPoints14
namespace Go.Proofs.YthemimhlhjfdaaaDoor.Ab
open Go Go.Ab Go.Qu Go.Proofs Go.ChangeShapes Go.WideShapes Go.ChangeAt Go.RowKit Go.Joins
set_option linter.unusedVariables false
set_option maxRecDepth 100000
theorem own : ownKnob Tryd.prog.godebug = none := by kernel_rfl
theorem laidOut : laidOutB Tryd.prog = true := by kernel_rfl
abbrev laid1 : List (String × DataW Unit) := [("quaere/sign.equals", Rows.laid_quaere_sign_equals)]
theorem gEq : Tryd.prog.globalNamed "quaere/sign.equals" = some 0 := by kernel_rfl
theorem tEq : (Tryd.prog.globals[0]?).map (·.type) = some 77 := by kernel_rfl
theorem door_met (os : Os) (args : Array Value) : laidMetH Tryd.prog laid1 ((World.doorLaid Tryd.prog 400 os).forCall (fun _ _ => 0) ⟨#[], args, []⟩).memory :=
  laidMetH_of_parts3 (fuel := 8) (laidMet_of_run' 8 (by kernel_rfl) (by kernel_rfl)) (by kernel_rfl) (by kernel_rfl)
theorem globs {W : World} (h : laidMetH Tryd.prog laid1 W) : GlobOk (Hw W) F.G := by
  rw [MakeChecks.laidMetH_plain _ _ _ (by kernel_rfl)] at h
  obtain ⟨ps, ⟨g0, t0, cs0, f0, p0, q0, hg0, ht0, hv0, hd0, _, _⟩, _, _⟩ := h
  obtain rfl := Option.some.inj (gEq.symm.trans hg0)
  obtain rfl := Option.some.inj (tEq.symm.trans ht0)
  obtain ⟨xs, n, _, hx, hlen, hxl, hf⟩ := DataW.trod_struct Tryd.underlying77 hd0
  have c1 : Tryd.prog.cellsOf 77 = 4 := by kernel_rfl
  have cs : Tryd.prog.cellsOf 9 = 1 := by kernel_rfl
  have ci : Tryd.prog.cellsOf 3 = 1 := by kernel_rfl
  rw [c1] at hlen
  have hx1 : xs.map (·.1) = [.lit (.string [61]), .lit (.int .i64 0), .lit (.int .i64 2), .lit (.int .i64 1)] := by
    simp only [Prod.mk.injEq] at hx
    have h9 := hx.1
    unfold Rows.laid_quaere_sign_equals at h9
    simp only [DataW.agg.injEq] at h9
    exact h9.symm
  have hcs : ∃ a b c d, cs0.toList = [a, b, c, d] := by
    match h : cs0.toList, hlen with
    | [a, b, c, d], _ => exact ⟨a, b, c, d, rfl⟩
  obtain ⟨a, b, c, d, hcs⟩ := hcs
  have hxs : ∃ x0 x1 x2 x3, xs = [x0, x1, x2, x3] := by
    match xs, hxl with
    | [x0, x1, x2, x3], _ => exact ⟨x0, x1, x2, x3, rfl⟩
  obtain ⟨x0, x1, x2, x3, rfl⟩ := hxs
  simp only [List.map_cons, List.map_nil, List.cons.injEq, and_true] at hx1
  obtain ⟨e0, e1, e2, e3⟩ := hx1
  have h0 : DataW.trod (fun _ => ()) Tryd.prog W 0 (fun _ => true) false n 9 ((cs0.toList.drop 0).take (Tryd.prog.cellsOf 9)) = some x0 := hf 0 _ rfl
  have h1 : DataW.trod (fun _ => ()) Tryd.prog W 0 (fun _ => true) false n 3 ((cs0.toList.drop 1).take (Tryd.prog.cellsOf 3)) = some x1 := hf 1 _ rfl
  have h2 : DataW.trod (fun _ => ()) Tryd.prog W 0 (fun _ => true) false n 3 ((cs0.toList.drop 2).take (Tryd.prog.cellsOf 3)) = some x2 := hf 2 _ rfl
  have h3 : DataW.trod (fun _ => ()) Tryd.prog W 0 (fun _ => true) false n 3 ((cs0.toList.drop 3).take (Tryd.prog.cellsOf 3)) = some x3 := hf 3 _ rfl
  rw [hcs, cs] at h0
  rw [hcs, ci] at h1 h2 h3
  obtain ⟨s, ha, hs, _⟩ := DataW.trod_string Tryd.underlying9 h0
  obtain ⟨n1, hb, hn1, _⟩ := DataW.trod_int Tryd.underlying3 h1
  obtain ⟨n2, hc, hn2, _⟩ := DataW.trod_int Tryd.underlying3 h2
  obtain ⟨n3, hd, hn3, _⟩ := DataW.trod_int Tryd.underlying3 h3
  simp at ha hb hc hd
  rw [hs] at e0; rw [hn1] at e1; rw [hn2] at e2; rw [hn3] at e3
  simp at e0 e1 e2 e3
  subst ha hb hc hd e1 e2 e3
  have hse : s = "=".toUTF8 := by
    have h5 : "=".toUTF8.data.toList = [61] := by decide +kernel
    have h6 : s.data = "=".toUTF8.data := Array.toList_inj.1 (e0.trans h5.symm)
    exact (show ∀ (x y : ByteArray), x.data = y.data → x = y by intro ⟨_⟩ ⟨_⟩ h; exact congrArg _ h) _ _ h6
  subst hse
  have hcell : ∀ (j : Nat) u, [Value.string "=".toUTF8, .int .i64 0, .int .i64 2, .int .i64 1][j]? = some u → W.cell? ⟨0, j, none⟩ = some u := fun j u hj => by
    have h7 := World.var?_cell hg0 hv0 j
    have h8 : cs0[j]? = some u := by rw [← Array.getElem?_toList, hcs]; exact hj
    rw [h8] at h7
    simpa using h7
  intro g cs hg
  simp only [F, List.map_cons, List.map_nil, assoc] at hg
  split at hg
  · rename_i hg0
    subst hg0
    simp only [Option.some.injEq] at hg
    subst hg
    refine ⟨[.string "=".toUTF8, .int .i64 0, .int .i64 2, .int .i64 1], ?_, fun j u hj => ?_, by simp [D.isAgg]⟩
    · unfold D.RepL; refine ⟨[_], _, rfl, by unfold D.Rep; rfl, ?_⟩
      unfold D.RepL; refine ⟨[_], _, rfl, by unfold D.Rep; rfl, ?_⟩
      unfold D.RepL; refine ⟨[_], _, rfl, by unfold D.Rep; rfl, ?_⟩
      unfold D.RepL; refine ⟨[_], [], rfl, by unfold D.Rep; rfl, ?_⟩
      unfold D.RepL; rfl
    · refine Hw.cell ?_
      have h9 := hcell j u hj
      unfold Addr.add
      split
      · rename_i hj0; subst hj0; exact h9
      · simpa using h9
  · simp at hg
theorem fxOk : FxOk Tryd.prog F where
  orders := by kernel_rfl
  tab := tab_ok
  code := code_ok.get
  prim := fun f p args r outs h => by cases h
  ins := insAll
/-! ### Arguments -/
theorem good_sym {n : Nat} {x : D} (h : Go.Ab.Good Tryd.prog (n + 2) 77 x) : ∃ s : Sym, x = s.d := by
  unfold Go.Ab.Good at h
  rw [Tryd.underlying77] at h
  obtain ⟨ys, rfl, y0, r0, rfl, h0, y1, r1, rfl, h1, y2, r2, rfl, h2, y3, r3, rfl, h3, rfl⟩ := h
  unfold Go.Ab.Good at h0 h1 h2 h3
  simp only [Tryd.underlying9, Tryd.underlying3] at h0 h1 h2 h3
  obtain ⟨s, rfl, _⟩ := h0
  obtain ⟨a, rfl, _⟩ := h1
  obtain ⟨b, rfl, _⟩ := h2
  obtain ⟨c, rfl, _⟩ := h3
  exact ⟨⟨s, a, b, c⟩, rfl⟩
theorem good_sig {n : Nat} {x : D} (h : Go.Ab.Good Tryd.prog (n + 3) 43 x) : ∃ z g, x = .sl 4 z (syms g) [] := by
  unfold Go.Ab.Good at h
  rw [Tryd.underlying43] at h
  obtain ⟨z, xs, rfl, _, h2, _⟩ := h
  have hc : Tryd.prog.cellsOf 77 = 4 := by kernel_rfl
  rw [hc]
  obtain ⟨g, rfl, _⟩ := all_map (f := Sym.d) (Q := fun _ => True) (fun y hy => by obtain ⟨s, hs⟩ := good_sym (h2 y hy); exact ⟨s, hs, trivial⟩)
  exact ⟨z, g, rfl⟩
theorem good_int {n : Nat} {x : D} (h : Go.Ab.Good Tryd.prog (n + 1) 3 x) : ∃ a : Int, x = .int .i64 a ∧ -9223372036854775808 ≤ a ∧ a ≤ 9223372036854775807 := by
  unfold Go.Ab.Good at h
  rw [Tryd.underlying3] at h
  obtain ⟨a, rfl, hw⟩ := h
  refine ⟨a, rfl, ?_⟩
  simp [Lit.wf, IntKind.min, IntKind.max, IntKind.bits, IntKind.signed] at hw
  omega
theorem good_ints {n : Nat} {x : D} (h : Go.Ab.Good Tryd.prog (n + 2) 56 x) : ∃ z l, x = .sl 1 z (ints l) [] ∧ Len l := by
  unfold Go.Ab.Good at h
  rw [Tryd.underlying56] at h
  obtain ⟨z, xs, rfl, h1, h2, _⟩ := h
  have hc : Tryd.prog.cellsOf 3 = 1 := by kernel_rfl
  have hb : Tryd.prog.bytesOf 3 = 8 := by kernel_rfl
  rw [hb] at h1
  rw [hc]
  obtain ⟨l, rfl, _⟩ := all_map (f := D.int .i64) (Q := fun _ => True) (fun y hy => by obtain ⟨a, ha, _⟩ := good_int (h2 y hy); exact ⟨a, ha, trivial⟩)
  rw [List.length_map] at h1
  exact ⟨z, l, rfl, by unfold Len; simpa [reachBytes] using h1⟩
theorem good_rows {n : Nat} {x : D} (h : Go.Ab.Good Tryd.prog (n + 3) 45 x) : ∃ z rs, x = .sl 1 z (rws rs) [] ∧ rs.length * 24 ≤ 140737488351232 ∧ ∀ r ∈ rs, Len r.l := by
  unfold Go.Ab.Good at h
  rw [Tryd.underlying45] at h
  obtain ⟨z, xs, rfl, h1, h2, _⟩ := h
  have hc : Tryd.prog.cellsOf 56 = 1 := by kernel_rfl
  have hb : Tryd.prog.bytesOf 56 = 24 := by kernel_rfl
  rw [hb] at h1
  rw [hc]
  obtain ⟨rs, rfl, h4⟩ := all_map (f := Row.d) (Q := fun r => Len r.l) (fun y hy => by obtain ⟨z, l, h, hl⟩ := good_ints (h2 y hy); exact ⟨⟨z, l, []⟩, h, hl⟩)
  rw [List.length_map] at h1
  exact ⟨z, rs, rfl, by simpa [reachBytes] using h1, h4⟩
end Go.Proofs.YthemimhlhjfdaaaDoor.Ab

/- Floats that are finite: sums, differences, products of floats of whole numbers are. No condition. -/
set_option linter.unusedVariables false
set_option maxRecDepth 4000
namespace Go.Ab
open Go Ieee

/-- Finite, its exponent at most so great. -/
def Fin2 (E : Nat) (x : Nat) : Prop := x % 2 ^ 63 < (E + 1) * 2 ^ 52
theorem fin_le {E E' x : Nat} (h : Fin2 E x) (hl : E ≤ E') : Fin2 E' x := Nat.lt_of_lt_of_le h (Nat.mul_le_mul_right _ (by omega))
theorem fin_read {E x : Nat} (h : Fin2 E x) (h1 : 1 ≤ E) (hE : E ≤ 2046) : ∃ s m p, double.read x = .number s m p ∧ m < 2 ^ 53 ∧ p + 1075 ≤ (E : Int) := by
  unfold Fin2 at h
  unfold Format.read
  simp only [sigw, bin, infr, least]
  generalize x % 2 ^ 63 = r at h ⊢
  by_cases c1 : r < 2 ^ 52
  · rw [if_pos c1]
    exact ⟨_, _, _, rfl, by omega, by omega⟩
  · rw [if_neg c1, if_pos (Nat.lt_of_lt_of_le h (Nat.mul_le_mul_right _ (by omega)))]
    have h2 : r / 2 ^ 52 ≤ E := by
      have : r / 2 ^ 52 < E + 1 := Nat.div_lt_of_lt_mul (by rw [Nat.mul_comm]; exact h)
      omega
    have h3 : 1 ≤ r / 2 ^ 52 := (Nat.one_le_div_iff (by omega)).2 (by omega)
    have h4 : r % 2 ^ 52 < 2 ^ 52 := Nat.mod_lt _ (by omega)
    generalize r / 2 ^ 52 = q at h2 h3
    generalize r % 2 ^ 52 = u at h4
    exact ⟨_, _, _, rfl, by omega, by omega⟩
theorem lt_log2 (n : Nat) : n < 2 ^ (n.log2 + 1) := Nat.lt_log2_self
/-- What is kept of a number has at most one digit more than the fraction's. -/
theorem kept_le (neg : Bool) (mag : Nat) (place last : Int) (h : place + mag.log2 - 52 ≤ last) : Toward.even.cut neg (mag <<< (place - last).toNat) (last - place).toNat ≤ 2 ^ 53 := by
  by_cases hl : last ≤ place
  · have e1 : (last - place).toNat = 0 := by omega
    rw [e1, cut_zero, Nat.shiftLeft_eq]
    have h2 := lt_log2 mag
    have h3 : 2 ^ (mag.log2 + 1) * 2 ^ (place - last).toNat ≤ 2 ^ 53 := by
      rw [← Nat.pow_add]
      exact Nat.pow_le_pow_right (by omega) (by omega)
    exact Nat.le_trans (Nat.le_of_lt (Nat.mul_lt_mul_of_pos_right h2 (Nat.two_pow_pos _))) h3
  · have e1 : (place - last).toNat = 0 := by omega
    rw [e1, Nat.shiftLeft_zero]
    generalize hd : (last - place).toNat = d
    unfold Toward.cut
    have hlow : mag / (1 <<< min d (mag.log2 + 2)) < 2 ^ 53 := by
      rw [Nat.one_shiftLeft]
      refine Nat.div_lt_of_lt_mul ?_
      rw [← Nat.pow_add]
      refine Nat.lt_of_lt_of_le (lt_log2 mag) (Nat.pow_le_pow_right (by omega) ?_)
      omega
    dsimp only
    generalize mag / (1 <<< min d (mag.log2 + 2)) = low at hlow
    have : ∀ b : Bool, b.toNat ≤ 1 := fun b => by cases b <;> simp
    have := this (decide (1 <<< min d (mag.log2 + 2) < 2 * (mag % 1 <<< min d (mag.log2 + 2))) || (1 <<< min d (mag.log2 + 2) == 2 * (mag % 1 <<< min d (mag.log2 + 2)) && low % 2 == 1))
    omega
theorem word_rung (neg : Bool) {r : Nat} (h : r < 2 ^ 63) : double.word neg r % 2 ^ 63 = r := by
  unfold Format.word
  simp only [sigw]
  split <;> omega
theorem near_fin (neg : Bool) (mag : Nat) (place : Int) (T : Nat) (h : place + mag.log2 + 1022 ≤ (T : Int)) : Fin2 (T + 2) (double.nearest neg mag place) := by
  unfold Fin2 Format.nearest
  by_cases h0 : mag = 0
  · rw [if_pos h0, word_rung neg (by omega)]; omega
  rw [if_neg h0]
  simp only [least, bin, infr]
  have e52 : ((double.fractionBits : Nat) : Int) = 52 := rfl
  rw [e52]
  generalize hlast : max (place + (mag.log2 : Int) - 52) (-1074) = last
  have hk := kept_le neg mag place last (by omega)
  generalize Toward.even.cut neg (mag <<< (place - last).toNat) (last - place).toNat = kept at hk
  have hT : (last - -1074).toNat ≤ T := by omega
  generalize (last - -1074).toNat = u at hT
  have h2 : u * 2 ^ 52 ≤ T * 2 ^ 52 := Nat.mul_le_mul_right _ hT
  rw [word_rung neg (by omega)]
  omega
theorem log2_le {n k : Nat} (h : n < 2 ^ (k + 1)) : n.log2 ≤ k := by
  by_cases h0 : n = 0
  · subst h0; simp
  · have := (Nat.log2_lt h0).2 h; omega
theorem fin_mul {E1 E2 x y : Nat} (h1 : Fin2 E1 x) (h2 : Fin2 E2 y) (a1 : 1 ≤ E1) (a2 : 1 ≤ E2) (b1 : E1 ≤ 2046) (b2 : E2 ≤ 2046) (hE : 1023 ≤ E1 + E2) : ∃ z, floatBits .mul .f64 x y = some z ∧ Fin2 (E1 + E2 - 1021) z := by
  obtain ⟨s, m, p, hr, hm, hp⟩ := fin_read h1 a1 b1
  obtain ⟨t, n, q, hr2, hn, hq⟩ := fin_read h2 a2 b2
  have hmul : floatBits .mul .f64 x y = double.mul x y := rfl
  rw [hmul, Format.mul, hr, hr2]
  refine ⟨_, rfl, ?_⟩
  have hmn : m * n < 2 ^ (105 + 1) := by
    have : m * n ≤ 2 ^ 53 * n := Nat.mul_le_mul_right _ (by omega)
    have : 2 ^ 53 * n < 2 ^ 53 * 2 ^ 53 := Nat.mul_lt_mul_of_pos_left hn (by omega)
    have e : (2 : Nat) ^ 53 * 2 ^ 53 = 2 ^ (105 + 1) := by rw [← Nat.pow_add]
    omega
  have hlog := log2_le hmn
  have := near_fin (s ^^ t) (m * n) (p + q) (E1 + E2 - 1023) (by omega)
  have e : E1 + E2 - 1023 + 2 = E1 + E2 - 1021 := by omega
  rw [e] at this
  exact this
theorem signed_abs (s : Bool) (m u : Nat) : (signed s m u).natAbs = m * 2 ^ u := by
  unfold signed
  rw [Nat.shiftLeft_eq]
  cases s
  · exact Int.natAbs_natCast _
  · show (-((m * 2 ^ u : Nat) : Int)).natAbs = _
    rw [Int.natAbs_neg, Int.natAbs_natCast]
theorem fin_sum {E s m i t n j} (hm : m < 2 ^ 53) (hn : n < 2 ^ 53) (hi : i + 1075 ≤ ((E : Nat) : Int)) (hj : j + 1075 ≤ (E : Int)) : ∃ d, (Datum.number s m i).sum (.number t n j) = some d ∧ Fin2 (E + 2) (double.write d) := by
  refine ⟨_, rfl, ?_⟩
  refine near_fin _ _ _ E ?_
  generalize hu : (i - min i j).toNat = u
  generalize hv : (j - min i j).toNat = v
  have h1 := signed_abs s m u
  have h2 := signed_abs t n v
  have h3 : (signed s m u + signed t n v).natAbs ≤ m * 2 ^ u + n * 2 ^ v := by rw [← h1, ← h2]; exact Int.natAbs_add_le _ _
  have h4 : m * 2 ^ u < 2 ^ (53 + max u v) := by
    rw [Nat.pow_add]
    calc m * 2 ^ u < 2 ^ 53 * 2 ^ u := Nat.mul_lt_mul_of_pos_right hm (Nat.two_pow_pos _)
      _ ≤ 2 ^ 53 * 2 ^ max u v := Nat.mul_le_mul_left _ (Nat.pow_le_pow_right (by omega) (by omega))
  have h5 : n * 2 ^ v < 2 ^ (53 + max u v) := by
    rw [Nat.pow_add]
    calc n * 2 ^ v < 2 ^ 53 * 2 ^ v := Nat.mul_lt_mul_of_pos_right hn (Nat.two_pow_pos _)
      _ ≤ 2 ^ 53 * 2 ^ max u v := Nat.mul_le_mul_left _ (Nat.pow_le_pow_right (by omega) (by omega))
  have h6 : (signed s m u + signed t n v).natAbs < 2 ^ (53 + max u v + 1) := by
    rw [Nat.pow_succ]; omega
  have h7 := log2_le h6
  omega
theorem fin_add {E x y : Nat} (h1 : Fin2 E x) (h2 : Fin2 E y) (a : 1 ≤ E) (b : E ≤ 2046) : ∃ z, floatBits .add .f64 x y = some z ∧ Fin2 (E + 2) z := by
  obtain ⟨s, m, p, hr, hm, hp⟩ := fin_read h1 a b
  obtain ⟨t, n, q, hr2, hn, hq⟩ := fin_read h2 a b
  have e : floatBits .add .f64 x y = double.add x y := rfl
  obtain ⟨d, hd, hf⟩ := fin_sum (s := s) (t := t) hm hn hp hq
  rw [e, Format.add, hr, hr2, hd]
  exact ⟨_, rfl, hf⟩
theorem fin_sub {E x y : Nat} (h1 : Fin2 E x) (h2 : Fin2 E y) (a : 1 ≤ E) (b : E ≤ 2046) : ∃ z, floatBits .sub .f64 x y = some z ∧ Fin2 (E + 2) z := by
  obtain ⟨s, m, p, hr, hm, hp⟩ := fin_read h1 a b
  obtain ⟨t, n, q, hr2, hn, hq⟩ := fin_read h2 a b
  have e : floatBits .sub .f64 x y = double.sub x y := rfl
  obtain ⟨d, hd, hf⟩ := fin_sum (s := s) (t := !t) hm hn hp hq
  rw [e, Format.sub, hr, hr2]
  show ∃ z, ((Datum.number s m p).sum (.number (!t) n q)).map double.write = some z ∧ _
  rw [hd]
  exact ⟨_, rfl, hf⟩
theorem fin_ofInt {n : Int} (h : n.natAbs < 2 ^ 64) : Fin2 1087 (floatOfInt .f64 n) := by
  have hl := log2_le (k := 63) (by omega : n.natAbs < 2 ^ (63 + 1))
  exact near_fin (decide (n < 0)) n.natAbs 0 1085 (by omega)
theorem fin_neg {E x : Nat} (h : Fin2 E x) : Fin2 E (Op.negFloat .f64 x) := by
  unfold Fin2 at *
  have e : Op.negFloat .f64 x = x ^^^ 2 ^ 63 := rfl
  rw [e, Nat.xor_mod_two_pow]
  simpa using h
/-- Sums and products of complex numbers whose parts were whole numbers. -/
theorem fin_csum {a b c d : Nat} (ha : Fin2 1087 a) (hb : Fin2 1087 b) (hc : Fin2 1087 c) (hd : Fin2 1087 d) : ∃ x y, cSumBits .add .f64 a b c d = some (x, y) := by
  obtain ⟨x, hx, _⟩ := fin_add ha hc (by omega) (by omega)
  obtain ⟨y, hy, _⟩ := fin_add hb hd (by omega) (by omega)
  exact ⟨x, y, by unfold cSumBits; rw [hx, hy]; rfl⟩
theorem fin_cmul {a b c d : Nat} (ha : Fin2 1087 a) (hb : Fin2 1087 b) (hc : Fin2 1087 c) (hd : Fin2 1087 d) : ∃ x y, cMulBits a b c d = some (x, y) := by
  obtain ⟨p, hp, hp2⟩ := fin_mul ha hc (by omega) (by omega) (by omega) (by omega) (by omega)
  obtain ⟨q, hq, hq2⟩ := fin_mul hb hd (by omega) (by omega) (by omega) (by omega) (by omega)
  obtain ⟨r, hr, hr2⟩ := fin_mul ha hd (by omega) (by omega) (by omega) (by omega) (by omega)
  obtain ⟨s, hs, hs2⟩ := fin_mul hb hc (by omega) (by omega) (by omega) (by omega) (by omega)
  obtain ⟨x, hx, _⟩ := fin_sub hp2 hq2 (by omega) (by omega)
  obtain ⟨y, hy, _⟩ := fin_add hr2 hs2 (by omega) (by omega)
  refine ⟨x, y, ?_⟩
  unfold cMulBits
  rw [hp, hq, hr, hs]
  simp only [Option.bind_some]
  rw [hx, hy]; rfl
end Go.Ab

/- Chapter 9's law Points: for every input the law returns true. No condition. -/
set_option linter.unusedVariables false
set_option linter.unusedSimpArgs false
set_option maxRecDepth 100000
namespace Go.Proofs.YthemimhlhjfdaaaDoor.Ab
open Go Go.Ab Go.Qu Go.Proofs
attribute [local simp] and_assoc
theorem w_awakeP : C 22 [] = some (iB true, []) := W_ev (n := 60) (by kernel_rfl)
theorem w_numP (n : Int) : C 21 [iI n] = some (iI n, [iI n]) := wfn (lk := []) rfl rfl (fnW_way (q21 _ _ n _) rfl)
theorem w_back_any (x y : Nat) : (∃ m n, C 38 [iZ x y] = some (iP m n, [iZ x y])) ∨ (∃ m, C 38 [iZ x y] = some (.agg [iI m, .dead], [iZ x y])) ∨ (∃ n, C 38 [iZ x y] = some (.agg [.dead, iI n], [iZ x y])) ∨ C 38 [iZ x y] = some (.agg [.dead, .dead], [iZ x y]) := by
  cases h1 : floatToIntVal .f64 x .i64 with
  | some m =>
    cases h2 : floatToIntVal .f64 y .i64 with
    | some n => exact Or.inl ⟨m, n, wfn (lk := []) rfl rfl (fnW_way (q38 _ _ x y _) (by rw [h1, h2]; rfl))⟩
    | none => exact Or.inr (Or.inl ⟨m, wfn (lk := []) rfl rfl (fnW_way (q38 _ _ x y _) (by rw [h1, h2]; rfl))⟩)
  | none =>
    cases h2 : floatToIntVal .f64 y .i64 with
    | some n => exact Or.inr (Or.inr (Or.inl ⟨n, wfn (lk := []) rfl rfl (fnW_way (q38 _ _ x y _) (by rw [h1, h2]; rfl))⟩))
    | none => exact Or.inr (Or.inr (Or.inr (wfn (lk := []) rfl rfl (fnW_way (q38 _ _ x y _) (by rw [h1, h2]; rfl)))))
theorem w_told_bad {a b c d : Int} (h : (nearP a b && nearP c d) = false) (x y : Nat) : C 28 [iP a b, iP c d, iZ x y] = some (.tup [iP 0 0, iI 900], [iP a b, iP c d, iZ x y]) := by
  refine wfn (lk := []) rfl rfl (fnW_way (q28 _ _ a b c d x y _) ?_)
  have h1 := w_pmay a b
  have h2 := w_pmay c d
  rcases w_back_any x y with ⟨m, n, hb⟩ | ⟨m, hb⟩ | ⟨n, hb⟩ | hb
  · refine Or.inl ⟨_, _, _, hb, _, _, h1, ?_⟩
    cases e1 : nearP a b
    · rfl
    · rw [condW_tt]
      refine ⟨_, _, h2, ?_⟩
      cases e2 : nearP c d
      · rfl
      · rw [e1, e2] at h; cases h
  · refine Or.inr (Or.inl ⟨_, _, hb, _, _, h1, ?_⟩)
    cases e1 : nearP a b
    · rfl
    · rw [condW_tt]
      refine ⟨_, _, h2, ?_⟩
      cases e2 : nearP c d
      · rfl
      · rw [e1, e2] at h; cases h
  · refine Or.inr (Or.inr (Or.inl ⟨_, _, hb, _, _, h1, ?_⟩))
    cases e1 : nearP a b
    · rfl
    · rw [condW_tt]
      refine ⟨_, _, h2, ?_⟩
      cases e2 : nearP c d
      · rfl
      · rw [e1, e2] at h; cases h
  · refine Or.inr (Or.inr (Or.inr ⟨_, hb, _, _, h1, ?_⟩))
    cases e1 : nearP a b
    · rfl
    · rw [condW_tt]
      refine ⟨_, _, h2, ?_⟩
      cases e2 : nearP c d
      · rfl
      · rw [e1, e2] at h; cases h
theorem told_bad {a b c d : Int} (h : (nearP a b && nearP c d) = false) (m n x : Int) : toldE a b c d m n = 900 ∧ toldV a b c d m n x = 0 := by
  unfold toldE toldV
  rw [h]
  exact ⟨rfl, rfl⟩
/-- The bounds of the machine's numbers. -/
def InI (a : Int) : Prop := -9223372036854775808 ≤ a ∧ a ≤ 9223372036854775807
theorem fin_of {a : Int} (h : InI a) : Fin2 1087 (floatOfInt .f64 a) := fin_ofInt (by unfold InI at h; omega)
theorem w_addA {a b c d : Int} (ha : InI a) (hb : InI b) (hc : InI c) (hd : InI d) : C 9 [iP a b, iP c d] = some (.tup [iP (toldV a b c d (a + c) (b + d) (a + c)) (toldV a b c d (a + c) (b + d) (b + d)), iI (toldE a b c d (a + c) (b + d))], [iP a b, iP c d]) := by
  cases h : nearP a b && nearP c d
  · rw [(told_bad h _ _ 0).1, (told_bad h _ _ _).2, (told_bad h _ _ _).2]
    refine wfn (lk := []) rfl rfl (fnW_way (q9 _ _ a b c d _) ?_)
    obtain ⟨x, y, h1⟩ := fin_csum (fin_of ha) (fin_of hb) (fin_of hc) (fin_of hd)
    refine ⟨_, _, _, w_of a b, _, _, _, w_of c d, ?_⟩
    rw [h1]
    exact ⟨_, _, _, _, _, _, w_told_bad h x y, rfl⟩
  · rw [Bool.and_eq_true] at h
    exact w_add h.1 h.2
theorem w_mulA {a b c d : Int} (ha : InI a) (hb : InI b) (hc : InI c) (hd : InI d) : C 11 [iP a b, iP c d] = some (.tup [iP (toldV a b c d (a * c - b * d) (a * d + b * c) (a * c - b * d)) (toldV a b c d (a * c - b * d) (a * d + b * c) (a * d + b * c)), iI (toldE a b c d (a * c - b * d) (a * d + b * c))], [iP a b, iP c d]) := by
  cases h : nearP a b && nearP c d
  · rw [(told_bad h _ _ 0).1, (told_bad h _ _ _).2, (told_bad h _ _ _).2]
    refine wfn (lk := []) rfl rfl (fnW_way (q11 _ _ a b c d _) ?_)
    obtain ⟨x, y, h1⟩ := fin_cmul (fin_of ha) (fin_of hb) (fin_of hc) (fin_of hd)
    refine ⟨_, _, _, w_of a b, _, _, _, w_of c d, ?_⟩
    rw [h1]
    exact ⟨_, _, _, _, _, _, w_told_bad h x y, rfl⟩
  · rw [Bool.and_eq_true] at h
    exact w_mul h.1 h.2
theorem w_flipA {a b : Int} (ha : InI a) (hb : InI b) : C 13 [iP a b] = some (.tup [iP (if nearP a b = true then b else 0) (if nearP a b = true then a else 0), iI (if nearP a b = true then 0 else 900)], [iP a b]) := by
  cases h : nearP a b
  · refine wfn (lk := []) rfl rfl (fnW_way (q13 _ _ a b _) ?_)
    obtain ⟨x, y, h1⟩ := fin_cmul (a := 0) (b := 4607182418800017408) (by unfold Fin2; decide) (by unfold Fin2; decide) (fin_of ha) (fin_neg (fin_of hb))
    refine ⟨_, _, _, w_of a b, _, _, _, w_turned _ _, ?_⟩
    rw [h1]
    exact ⟨_, _, _, _, _, _, w_told_bad (by rw [h]; rfl) x y, rfl⟩
  · exact w_flip h
theorem w_underA (a b c d : Int) : C 15 [iP a b, iP c d] = some (.tup [iB ((nearP a b && nearP c d) && (decide (a ≤ c) && decide (b ≤ d))), iI (if (nearP a b && nearP c d) = true then 0 else 900)], [iP a b, iP c d]) := by
  cases h1 : nearP a b
  · refine wfn (lk := []) rfl rfl (fnW_way (q15 _ _ a b c d _) ?_)
    refine ⟨_, _, w_pmay a b, ?_⟩
    rw [h1]; rfl
  · cases h2 : nearP c d
    · refine wfn (lk := []) rfl rfl (fnW_way (q15 _ _ a b c d _) ?_)
      refine ⟨_, _, w_pmay a b, ?_⟩
      rw [h1, condW_tt]
      refine ⟨_, _, w_pmay c d, ?_⟩
      rw [h2]; rfl
    · exact w_under h1 h2
theorem w_scoreA (a b c d : Int) : C 17 [iP a b, iP c d] = some (.tup [iI (if (nearP a b && nearP c d) = true then a * c + b * d else 0), iI (if (nearP a b && nearP c d) = true then 0 else 900)], [iP a b, iP c d]) := by
  cases h1 : nearP a b
  · refine wfn (lk := []) rfl rfl (fnW_way (q17 _ _ a b c d _) ?_)
    refine ⟨_, _, w_pmay a b, ?_⟩
    rw [h1]; rfl
  · cases h2 : nearP c d
    · refine wfn (lk := []) rfl rfl (fnW_way (q17 _ _ a b c d _) ?_)
      refine ⟨_, _, w_pmay a b, ?_⟩
      rw [h1, condW_tt]
      refine ⟨_, _, w_pmay c d, ?_⟩
      rw [h2]; rfl
    · exact w_score h1 h2
/-! ### The document's points -/
theorem w_rpmay (a b : Int) : C 20 [iP a b] = some (iB (nearP a b), [iP a b]) := by
  refine wfn (lk := []) rfl rfl (fnW_way (q20 _ _ a b _) ?_)
  by_cases h1 : a ≥ -1000000 <;> by_cases h2 : a ≤ 1000000 <;> by_cases h3 : b ≥ -1000000 <;> by_cases h4 : b ≤ 1000000 <;> simp [h1, h2, h3, h4, nearP, near]
theorem w_rpoint (m n : Int) : C 30 [iI m, iI n] = some (.tup [iP (if nearP m n = true then m else 0) (if nearP m n = true then n else 0), iI (if nearP m n = true then 0 else 901)], [iI m, iI n]) := by
  refine wfn (lk := []) rfl rfl (fnW_way (q30 _ _ m n _) ?_)
  refine ⟨_, _, w_rpmay m n, ?_⟩
  cases nearP m n <;> rfl
theorem near_b {a b : Int} (h : nearP a b = true) : (-1000000 ≤ a ∧ a ≤ 1000000) ∧ -1000000 ≤ b ∧ b ≤ 1000000 := by
  rw [nearP_iff, near_iff, near_iff] at h; exact h
theorem mul_b {a b : Int} (ha : -1000000 ≤ a ∧ a ≤ 1000000) (hb : -1000000 ≤ b ∧ b ≤ 1000000) : -1000000000000 ≤ a * b ∧ a * b ≤ 1000000000000 := by
  have h : (a * b).natAbs ≤ 1000000 * 1000000 := by rw [Int.natAbs_mul]; exact Nat.mul_le_mul (by omega) (by omega)
  generalize a * b = p at h ⊢
  omega
theorem told_ok {a b c d : Int} (h1 : nearP a b = true) (h2 : nearP c d = true) (m n x : Int) : toldE a b c d m n = (if nearP m n = true then 0 else 901) ∧ toldV a b c d m n x = (if nearP m n = true then x else 0) := by
  unfold toldE toldV
  rw [h1, h2]
  exact ⟨rfl, rfl⟩
theorem w_radd (a b c d : Int) : C 10 [iP a b, iP c d] = some (.tup [iP (toldV a b c d (a + c) (b + d) (a + c)) (toldV a b c d (a + c) (b + d) (b + d)), iI (toldE a b c d (a + c) (b + d))], [iP a b, iP c d]) := by
  refine wfn (lk := []) rfl rfl (fnW_way (q10 _ _ a b c d _) ?_)
  refine ⟨_, _, w_rpmay a b, ?_⟩
  cases h1 : nearP a b
  · have h : (nearP a b && nearP c d) = false := by rw [h1]; rfl
    rw [(told_bad h _ _ 0).1, (told_bad h _ _ _).2, (told_bad h _ _ _).2]; rfl
  rw [condW_tt]
  refine ⟨_, _, w_rpmay c d, ?_⟩
  cases h2 : nearP c d
  · have h : (nearP a b && nearP c d) = false := by rw [h1, h2]; rfl
    rw [(told_bad h _ _ 0).1, (told_bad h _ _ _).2, (told_bad h _ _ _).2]; rfl
  rw [condW_tt]
  have n1 := near_b h1; have n2 := near_b h2
  rw [(told_ok h1 h2 _ _ 0).1, (told_ok h1 h2 _ _ _).2, (told_ok h1 h2 _ _ _).2, wr (a + c) (by omega) (by omega), wr (b + d) (by omega) (by omega)]
  exact ⟨_, _, _, _, _, w_rpoint _ _, rfl⟩
theorem w_rmul (a b c d : Int) : C 12 [iP a b, iP c d] = some (.tup [iP (toldV a b c d (a * c - b * d) (a * d + b * c) (a * c - b * d)) (toldV a b c d (a * c - b * d) (a * d + b * c) (a * d + b * c)), iI (toldE a b c d (a * c - b * d) (a * d + b * c))], [iP a b, iP c d]) := by
  refine wfn (lk := []) rfl rfl (fnW_way (q12 _ _ a b c d _) ?_)
  refine ⟨_, _, w_rpmay a b, ?_⟩
  cases h1 : nearP a b
  · have h : (nearP a b && nearP c d) = false := by rw [h1]; rfl
    rw [(told_bad h _ _ 0).1, (told_bad h _ _ _).2, (told_bad h _ _ _).2]; rfl
  rw [condW_tt]
  refine ⟨_, _, w_rpmay c d, ?_⟩
  cases h2 : nearP c d
  · have h : (nearP a b && nearP c d) = false := by rw [h1, h2]; rfl
    rw [(told_bad h _ _ 0).1, (told_bad h _ _ _).2, (told_bad h _ _ _).2]; rfl
  rw [condW_tt]
  have n1 := near_b h1; have n2 := near_b h2
  rw [(told_ok h1 h2 _ _ 0).1, (told_ok h1 h2 _ _ _).2, (told_ok h1 h2 _ _ _).2]
  have m1 := mul_b n1.1 n2.1; have m2 := mul_b n1.2 n2.2; have m3 := mul_b n1.1 n2.2; have m4 := mul_b n1.2 n2.1
  rw [wr (a * c) (by omega) (by omega), wr (b * d) (by omega) (by omega), wr (a * d) (by omega) (by omega), wr (b * c) (by omega) (by omega), wr (a * c - b * d) (by omega) (by omega), wr (a * d + b * c) (by omega) (by omega)]
  exact ⟨_, _, _, _, _, w_rpoint _ _, rfl⟩
theorem w_rflip (a b : Int) : C 14 [iP a b] = some (.tup [iP (if nearP a b = true then b else 0) (if nearP a b = true then a else 0), iI (if nearP a b = true then 0 else 900)], [iP a b]) := by
  refine wfn (lk := []) rfl rfl (fnW_way (q14 _ _ a b _) ?_)
  refine ⟨_, _, w_rpmay a b, ?_⟩
  cases nearP a b <;> rfl
theorem w_runder (a b c d : Int) : C 16 [iP a b, iP c d] = some (.tup [iB ((nearP a b && nearP c d) && (decide (a ≤ c) && decide (b ≤ d))), iI (if (nearP a b && nearP c d) = true then 0 else 900)], [iP a b, iP c d]) := by
  refine wfn (lk := []) rfl rfl (fnW_way (q16 _ _ a b c d _) ?_)
  refine ⟨_, _, w_rpmay a b, ?_⟩
  cases h1 : nearP a b
  · rfl
  rw [condW_tt]
  refine ⟨_, _, w_rpmay c d, ?_⟩
  cases h2 : nearP c d
  · rfl
  rw [condW_tt]
  by_cases c1 : a ≤ c <;> by_cases c2 : b ≤ d <;> simp [c1, c2]
theorem w_rscore (a b c d : Int) : C 18 [iP a b, iP c d] = some (.tup [iI (if (nearP a b && nearP c d) = true then a * c + b * d else 0), iI (if (nearP a b && nearP c d) = true then 0 else 900)], [iP a b, iP c d]) := by
  refine wfn (lk := []) rfl rfl (fnW_way (q18 _ _ a b c d _) ?_)
  refine ⟨_, _, w_rpmay a b, ?_⟩
  cases h1 : nearP a b
  · rfl
  rw [condW_tt]
  refine ⟨_, _, w_rpmay c d, ?_⟩
  cases h2 : nearP c d
  · rfl
  rw [condW_tt]
  have n1 := near_b h1; have n2 := near_b h2
  have m1 := mul_b n1.1 n2.1; have m2 := mul_b n1.2 n2.2
  rw [wr (a * c) (by omega) (by omega), wr (b * d) (by omega) (by omega), wr (a * c + b * d) (by omega) (by omega)]
  rfl
theorem bp (x y : Int) : (x == x && (y == y && true)) = true := by simp
theorem bq (x : Int) : (x == x) = true := by simp
theorem law_points {a b c d : Int} (ha : InI a) (hb : InI b) (hc : InI c) (hd : InI d) : C 3 [iP a b, iP c d] = some (iB true, [iP a b, iP c d]) := by
  refine wfn (lk := []) rfl rfl (fnW_way (q3 _ _ a b c d _) ?_)
  refine ⟨_, _, _, _, _, w_addA ha hb hc hd, _, _, _, _, _, w_radd a b c d, _, _, _, _, _, w_mulA ha hb hc hd, _, _, _, _, _, w_rmul a b c d, _, _, _, _, w_flipA ha hb, _, _, _, _, w_rflip a b, _, _, _, _, w_underA a b c d, ?_⟩
  cases hu : ((nearP a b && nearP c d) && (decide (a ≤ c) && decide (b ≤ d)))
  · rw [condW_ff]
    refine ⟨_, _, _, _, w_runder a b c d, ?_⟩
    rw [hu, condW_ff]
    refine ⟨_, _, _, _, w_scoreA a b c d, _, _, _, _, w_rscore a b c d, _, _, w_pmay a b, ?_⟩
    cases hn : nearP a b
    · rw [condW_ff]
      refine ⟨_, _, w_rpmay a b, ?_⟩
      rw [hn, condW_ff, bp, condW_tt]
      refine ⟨_, _, w_numP _, ?_⟩
      rw [bq, condW_tt, bp, condW_tt]
      refine ⟨_, _, w_numP _, ?_⟩
      rw [bq, condW_tt, bp, condW_tt]
      refine ⟨_, _, w_numP _, ?_⟩
      rw [bq, condW_tt]
      refine ⟨_, _, w_numP _, ?_⟩
      rw [bq, condW_tt, bq, condW_tt]
      refine ⟨_, _, w_numP _, ?_⟩
      rw [bq, condW_tt]
      refine ⟨_, w_awakeP, ?_⟩
      rw [condW_tt]
    · rw [condW_tt]
      refine ⟨_, _, w_rpmay a b, ?_⟩
      rw [hn, condW_tt, bp, condW_tt]
      refine ⟨_, _, w_numP _, ?_⟩
      rw [bq, condW_tt, bp, condW_tt]
      refine ⟨_, _, w_numP _, ?_⟩
      rw [bq, condW_tt, bp, condW_tt]
      refine ⟨_, _, w_numP _, ?_⟩
      rw [bq, condW_tt]
      refine ⟨_, _, w_numP _, ?_⟩
      rw [bq, condW_tt, bq, condW_tt]
      refine ⟨_, _, w_numP _, ?_⟩
      rw [bq, condW_tt]
      refine ⟨_, w_awakeP, ?_⟩
      rw [condW_tt]
  · rw [condW_tt]
    refine ⟨_, _, _, _, w_runder a b c d, ?_⟩
    rw [hu, condW_tt]
    refine ⟨_, _, _, _, w_scoreA a b c d, _, _, _, _, w_rscore a b c d, _, _, w_pmay a b, ?_⟩
    cases hn : nearP a b
    · rw [hn] at hu; cases hu
    · rw [condW_tt]
      refine ⟨_, _, w_rpmay a b, ?_⟩
      rw [hn, condW_tt, bp, condW_tt]
      refine ⟨_, _, w_numP _, ?_⟩
      rw [bq, condW_tt, bp, condW_tt]
      refine ⟨_, _, w_numP _, ?_⟩
      rw [bq, condW_tt, bp, condW_tt]
      refine ⟨_, _, w_numP _, ?_⟩
      rw [bq, condW_tt]
      refine ⟨_, _, w_numP _, ?_⟩
      rw [bq, condW_tt, bq, condW_tt]
      refine ⟨_, _, w_numP _, ?_⟩
      rw [bq, condW_tt]
      refine ⟨_, w_awakeP, ?_⟩
      rw [condW_tt]
theorem good_point {n : Nat} {x : D} (h : Go.Ab.Good Tryd.prog (n + 2) 23 x) : ∃ a b, x = .agg [.int .i64 a, .int .i64 b] ∧ InI a ∧ InI b := by
  unfold Go.Ab.Good at h
  rw [Tryd.underlying23] at h
  obtain ⟨ys, rfl, y0, r0, rfl, h0, y1, r1, rfl, h1, rfl⟩ := h
  obtain ⟨a, rfl, ha⟩ := good_int h0
  obtain ⟨b, rfl, hb⟩ := good_int h1
  exact ⟨a, b, rfl, ha, hb⟩
theorem call_points (y0 y1 : D) (h0 : Go.Ab.Good Tryd.prog 12 23 y0) (h1 : Go.Ab.Good Tryd.prog 12 23 y1) : ∃ outs, C 3 [.d y0, .d y1] = some (iB true, outs) := by
  obtain ⟨a, b, rfl, ha, hb⟩ := good_point h0
  obtain ⟨c, d, rfl, hc, hd⟩ := good_point h1
  exact ⟨_, law_points ha hb hc hd⟩
end Go.Proofs.YthemimhlhjfdaaaDoor.Ab
