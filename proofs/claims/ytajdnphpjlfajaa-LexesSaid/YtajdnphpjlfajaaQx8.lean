-- Written by a program of this session (wip/tools), out of the translation. Not trusted: Lean checks it.
import Derived.Test.YtajdnphpjlfajaaQx0
import Derived.Test.YtajdnphpjlfajaaQx3
import Derived.Test.YtajdnphpjlfajaaQx6
namespace Go.Proofs.Ytajdnphpjlfajaa.Q
open Go.RowKit Go.Proofs.YtajdnphpjlfajaaW.PrintWords Go.Proofs.YtajdnphpjlfajaaW.PrintLast Go.Proofs.YtajdnphpjlfajaaW.PrintMore
attribute [local go_sem] max2_int min2_int max_two min_two max_three min_three max_four min_four   -- for this text's walks alone
set_option linter.unusedVariables false
set_option linter.unusedSimpArgs false

/-! ### quaerelaw21_LexNumbers: function 6 -/
mutual
def quaerelaw21_LexNumbers.l0 : Nat → Int → ByteArray → Int → Option (Bool)
  | 0, _, _, _ => none
  | k + 1, x3, x4, x5 => if x5 > 0 then ((some (([(wrap64 (48 + (Int.tmod x5 10))) % 256] : List Int) : List Int)).bind fun y223 => (if (strOfNums y223).size + x4.size ≤ 9223372036854775807 then (quaerelaw21_LexNumbers.l0 k x3 ((strOfNums y223) ++ x4) (wrap64 (Int.tdiv x5 10))) else (none))) else (if x4.toList = ([] : List UInt8) then ((some (([(wrap64 (48 + (Int.tmod x5 10))) % 256] : List Int) : List Int)).bind fun y226 => (if (strOfNums y226).size + x4.size ≤ 9223372036854775807 then (quaerelaw21_LexNumbers.l0 k x3 ((strOfNums y226) ++ x4) (wrap64 (Int.tdiv x5 10))) else (none))) else ((lex_Lex.f k x4).bind fun bt229 => (if 1 + x4.size ≤ 9223372036854775807 then ((lex_Lex.f k ((⟨#[88]⟩ : ByteArray) ++ x4)).bind fun bt233 => ((lex_Lex.f k ((⟨#[48]⟩ : ByteArray) ++ x4)).bind fun bt237 => ((lex_Lex.f k ((⟨#[97]⟩ : ByteArray) ++ x4)).bind fun bt241 => ((quaerelaw0_Num.f bt229.2).bind fun t245 => (if ((t245 == 0) != (decide (x3 < 10000))) = true then (quaerelaw21_LexNumbers.j1 k x3 x4 bt229.1 bt233.1 bt241.1 true) else ((quaerelaw0_Num.f bt233.2).bind fun t246 => (if ((t246 == 0) != (decide (x3 ≤ 23))) = true then (quaerelaw21_LexNumbers.j1 k x3 x4 bt229.1 bt233.1 bt241.1 true) else ((quaerelaw0_Num.f bt237.2).bind fun t247 => (if t247 = 2100 then ((quaerelaw0_Num.f bt241.2).bind fun t248 => (quaerelaw21_LexNumbers.j1 k x3 x4 bt229.1 bt233.1 bt241.1 (t248 != 0))) else (quaerelaw21_LexNumbers.j1 k x3 x4 bt229.1 bt233.1 bt241.1 true)))))))))) else (none))))
def quaerelaw21_LexNumbers.j1 : Nat → Int → ByteArray → List (S33) → List (S33) → List (S33) → Bool → Option (Bool)
  | 0, _, _, _, _, _, _ => none
  | k + 1, x3, x4, x6, x8, x12, x83 => if x83 = true then (some false) else (if x3 ≥ 10000 then (if x3 > 23 then (if 1 + x4.size ≤ 9223372036854775807 then ((quaerelaw0_SameWords.f k x12 (([(⟨0, (⟨#[97]⟩ : ByteArray) ++ x4⟩ : S33)] : List (S33)))).bind fun t252 => (some t252)) else (none)) else (if 1 + x4.size ≤ 9223372036854775807 then ((quaerelaw0_SameWords.f k x8 (([(⟨1, (⟨#[88]⟩ : ByteArray) ++ x4⟩ : S33)] : List (S33)))).bind fun t256 => (if t256 = true then ((quaerelaw0_SameWords.f k x12 (([(⟨0, (⟨#[97]⟩ : ByteArray) ++ x4⟩ : S33)] : List (S33)))).bind fun t260 => (some t260)) else (some false))) else (none))) else ((quaerelaw0_SameWords.f k x6 (([(⟨2, x4⟩ : S33)] : List (S33)))).bind fun t264 => (if t264 = true then (if x3 > 23 then (if 1 + x4.size ≤ 9223372036854775807 then ((quaerelaw0_SameWords.f k x12 (([(⟨0, (⟨#[97]⟩ : ByteArray) ++ x4⟩ : S33)] : List (S33)))).bind fun t268 => (some t268)) else (none)) else (if 1 + x4.size ≤ 9223372036854775807 then ((quaerelaw0_SameWords.f k x8 (([(⟨1, (⟨#[88]⟩ : ByteArray) ++ x4⟩ : S33)] : List (S33)))).bind fun t272 => (if t272 = true then ((quaerelaw0_SameWords.f k x12 (([(⟨0, (⟨#[97]⟩ : ByteArray) ++ x4⟩ : S33)] : List (S33)))).bind fun t276 => (some t276)) else (some false))) else (none))) else (some false))))
end
def quaerelaw21_LexNumbers.f (k : Nat) (a0 : Int) : Option (Bool) := (quaerelaw21_awake.f k).bind fun t222 => (if t222 = true then (quaerelaw21_LexNumbers.l0 k (wrap64 (Int.tmod (IntKind.u64.wrap (a0)) 100000)) (⟨#[]⟩ : ByteArray) (wrap64 (Int.tmod (IntKind.u64.wrap (a0)) 100000))) else (some false))
theorem quaerelaw21_LexNumbers.mono_l : ∀ k, (∀ y0 y1 y2, LeO (quaerelaw21_LexNumbers.l0 k y0 y1 y2) (quaerelaw21_LexNumbers.l0 (k + 1) y0 y1 y2)) ∧ (∀ y0 y1 y2 y3 y4 y5, LeO (quaerelaw21_LexNumbers.j1 k y0 y1 y2 y3 y4 y5) (quaerelaw21_LexNumbers.j1 (k + 1) y0 y1 y2 y3 y4 y5))
  | 0 => ⟨fun _ _ _ r h => by simp [quaerelaw21_LexNumbers.l0] at h, fun _ _ _ _ _ _ r h => by simp [quaerelaw21_LexNumbers.j1] at h⟩
  | k + 1 => by
    obtain ⟨ih0, ih1⟩ := quaerelaw21_LexNumbers.mono_l k
    refine ⟨?_, ?_⟩
    · intro y0 y1 y2
      unfold quaerelaw21_LexNumbers.l0
      repeat' first
      | (with_reducible exact ih0 _ _ _)
      | (with_reducible exact ih1 _ _ _ _ _ _)
      | (with_reducible exact lex_Lex.mono _ _)
      | (with_reducible exact quaerelaw0_SameWords.mono _ _ _)
      | (with_reducible exact quaerelaw21_awake.mono _)
      | (with_reducible exact LeO.refl _)
      | (with_reducible exact LeO.none _)
      | (with_reducible refine LeO.ite ?_ ?_)
      | (with_reducible refine LeO.bind ?_ (fun _ => ?_))
      | exact ih0 _ _ _
      | exact ih1 _ _ _ _ _ _
      | exact lex_Lex.mono _ _
      | exact quaerelaw0_SameWords.mono _ _ _
      | exact quaerelaw21_awake.mono _
      | exact LeO.none _
      | refine LeO.ite ?_ ?_
      | refine LeO.bind ?_ (fun _ => ?_)
    · intro y0 y1 y2 y3 y4 y5
      unfold quaerelaw21_LexNumbers.j1
      repeat' first
      | (with_reducible exact ih0 _ _ _)
      | (with_reducible exact ih1 _ _ _ _ _ _)
      | (with_reducible exact lex_Lex.mono _ _)
      | (with_reducible exact quaerelaw0_SameWords.mono _ _ _)
      | (with_reducible exact quaerelaw21_awake.mono _)
      | (with_reducible exact LeO.refl _)
      | (with_reducible exact LeO.none _)
      | (with_reducible refine LeO.ite ?_ ?_)
      | (with_reducible refine LeO.bind ?_ (fun _ => ?_))
      | exact ih0 _ _ _
      | exact ih1 _ _ _ _ _ _
      | exact lex_Lex.mono _ _
      | exact quaerelaw0_SameWords.mono _ _ _
      | exact quaerelaw21_awake.mono _
      | exact LeO.none _
      | refine LeO.ite ?_ ?_
      | refine LeO.bind ?_ (fun _ => ?_)
theorem quaerelaw21_LexNumbers.mono : ∀ a0 k, LeO (quaerelaw21_LexNumbers.f k a0) (quaerelaw21_LexNumbers.f (k + 1) a0) := by
  intro a0 k
  obtain ⟨ih0, ih1⟩ := quaerelaw21_LexNumbers.mono_l k
  unfold quaerelaw21_LexNumbers.f
  repeat' first
      | (with_reducible exact ih0 _ _ _)
      | (with_reducible exact ih1 _ _ _ _ _ _)
      | (with_reducible exact lex_Lex.mono _ _)
      | (with_reducible exact quaerelaw0_SameWords.mono _ _ _)
      | (with_reducible exact quaerelaw21_awake.mono _)
      | (with_reducible exact LeO.refl _)
      | (with_reducible exact LeO.none _)
      | (with_reducible refine LeO.ite ?_ ?_)
      | (with_reducible refine LeO.bind ?_ (fun _ => ?_))
      | exact ih0 _ _ _
      | exact ih1 _ _ _ _ _ _
      | exact lex_Lex.mono _ _
      | exact quaerelaw0_SameWords.mono _ _ _
      | exact quaerelaw21_awake.mono _
      | exact LeO.none _
      | refine LeO.ite ?_ ?_
      | refine LeO.bind ?_ (fun _ => ?_)
set_option maxHeartbeats 8000000 in
set_option maxRecDepth 100000 in
theorem quaerelaw21_LexNumbers.calls (k : Nat) (a0 : Int) (r : Bool) (w : World) (h : quaerelaw21_LexNumbers.f k a0 = some r) :
    Calls Try.prog 6 #[.int .i64 a0] w fun e w' => e = .returned (.bool r) ∧ Below w.heap.size w w' := by
  have hu33 := Try.underlying33
  have HB := Aside0.mk (Below.refl w.heap.size w)
  have H : ((quaerelaw21_awake.f k).bind fun t222 => (if t222 = true then (quaerelaw21_LexNumbers.l0 k (wrap64 (Int.tmod (IntKind.u64.wrap (a0)) 100000)) (⟨#[]⟩ : ByteArray) (wrap64 (Int.tmod (IntKind.u64.wrap (a0)) 100000))) else (some false))) = some r := h
  clear h
  replace H := Option.bind_eq_some_iff.mp H
  obtain ⟨t222, A20, H⟩ := H
  replace H : (if t222 = true then (quaerelaw21_LexNumbers.l0 k (wrap64 (Int.tmod (IntKind.u64.wrap (a0)) 100000)) (⟨#[]⟩ : ByteArray) (wrap64 (Int.tmod (IntKind.u64.wrap (a0)) 100000))) else (some false)) = some r := H
  have A2 := Aside0.mk A20
  clear A20
  by_cases c3 : t222 = true
  · subst c3
    have H1 : (quaerelaw21_LexNumbers.l0 k (wrap64 (Int.tmod (IntKind.u64.wrap (a0)) 100000)) (⟨#[]⟩ : ByteArray) (wrap64 (Int.tmod (IntKind.u64.wrap (a0)) 100000))) = some r := by rw [if_pos rfl] at H; exact H
    clear H
    have H := H1
    clear H1
    have H' := Aside0.mk H
    clear H
    go_enter Try.func6, Try.ntmps6
    go_wp2_with (first | ((with_reducible refine gate_callee (f := 12) rfl ?_); refine goesL_ (some 14) rfl rfl Try.func12 (by kernel_rfl) rfl #[] rfl (by (try simp only [List.map_toArray, List.map_cons, List.map_nil]); first | done | rfl | (simp only [List.length_drop, List.length_take]; rfl)) ?_; (with_reducible refine (quaerelaw21_awake.calls k  true _ A2.out).mono ?_); rintro e w4 ⟨rfl, hb⟩; refine ⟨_, rfl, ?_⟩; have n0_ := Aside0.mk (below_step (by repeat (first | (with_reducible first | exact HB.out | apply below_alloc | apply pw_below_drewN | apply below_drew1) | exact HB.out)) hb); clear HB; have HB := n0_; clear n0_; (try clear hb); (try clear hb2); (try clear hk); (try clear hi)))
    go_loopg [4, 5] k (fun kq v4 v5 w' => ∃ (x4_1 : ByteArray) (x5_1 : Int), v4 = .string x4_1 ∧ v5 = .int .i64 x5_1 ∧ Aside0 (quaerelaw21_LexNumbers.l0 kq (wrap64 (Int.tmod (IntKind.u64.wrap (a0)) 100000)) x4_1 x5_1 = some r) ∧ Aside0 (kq ≤ k) ∧ Aside0 (Below w.heap.size w w'))
    case atStart => exact ⟨((⟨#[]⟩ : ByteArray)), (wrap64 (Int.tmod (IntKind.u64.wrap (a0)) 100000)), (by first | rfl | (simp; done) | (simp [*]; done)), (by first | rfl | (simp; done) | (simp [*]; done)), H', ⟨Nat.le_refl _⟩, ⟨by repeat (first | (with_reducible first | exact HB.out | apply below_alloc | apply pw_below_drewN | apply below_drew1) | exact HB.out)⟩⟩
    case round =>
      clear H'
      try clear c1
      try clear p2
      try clear c3
      obtain ⟨x4_1, x5_1, rfl, rfl, HA, HK1, HB⟩ := hrel
      cases gk with
      | zero => exact absurd HA.out (by simp [quaerelaw21_LexNumbers.l0])
      | succ k1 =>
        have H := HA.out
        clear HA
        simp only [quaerelaw21_LexNumbers.l0] at H
        by_cases c5 : x5_1 > 0
        · rw [if_pos c5] at H
          have c5b0 : decide (0 < x5_1) = true := decide_eq_true c5
          clear c5
          obtain ⟨y223, hy223⟩ : ∃ y_ : List Int, y_ = (([(wrap64 (48 + (Int.tmod x5_1 10))) % 256] : List Int)) := ⟨_, rfl⟩
          replace H : (if (strOfNums y223).size + x4_1.size ≤ 9223372036854775807 then (quaerelaw21_LexNumbers.l0 k1 (wrap64 (Int.tmod (IntKind.u64.wrap (a0)) 100000)) ((strOfNums y223) ++ x4_1) (wrap64 (Int.tdiv x5_1 10))) else (none)) = some r := by first | (rw [hy223]; with_reducible exact H) | (have H2_ := (Option.bind_some _ _).symm.trans H; rw [hy223]; with_reducible exact H2_) | (have H2_ := (Option.bind_some _ _).symm.trans H; with_reducible exact H2_) | with_reducible exact H | (rw [hy223]; exact H) | exact H
          have Ny223 := Aside0.mk hy223
          clear hy223
          by_cases c6 : (strOfNums y223).size + x4_1.size ≤ 9223372036854775807
          · rw [if_pos c6] at H
            have c6b0 := eq_true c6
            have c6b1 : decide ((strOfNums y223).size + x4_1.size ≤ 9223372036854775807) = true := decide_eq_true c6
            try have c6b2 : (9223372036854775807 < (strOfNums y223).size + x4_1.size) = False := eq_false (Nat.not_lt.2 c6)
            (try (have c6b3 := c6b2; simp only [ByteArray.size_append] at c6b3))
            have H' := Aside0.mk H
            clear H
            go_wp2_with (first | ((with_reducible refine gate_dst (N := 33) rfl ?_); (try (refine gate_guard (by rfl) ?_; dsimp only)); refine Kd.R_lit (Kd.int .u8) _ 5 ?hg (N := 33) ?hd (xs := ([(wrap64 (48 + (Int.tmod x5_1 10))) % 256] : List Int)) (inner := [.int .u8 ((wrap64 (48 + (Int.tmod x5_1 10))) % 256)]) (ok := fun _ => True) (okp := fun _ => True) ?hr ?hp (fun _ hk => hk) trivial (Below.refl _ _) (Nat.le_refl _) (by simp) ?_; (case hd => rfl); (case hg => rfl); (case hr => first | (go_simp; done) | (go_simp; rfl)); (case hp => exact (Reps.one (show Kd.M (Kd.int .u8) _ _ _ ((wrap64 (48 + (Int.tmod x5_1 10))) % 256) [.int .u8 ((wrap64 (48 + (Int.tmod x5_1 10))) % 256)] from rfl) (Reps.none _ _))); intro v224 w7 ho8 hb hg_ hnew_; clear hg_ hnew_; (first | rw [← Ny223.out] at ho8 | (simp only [Int.reduceToNat] at ho8; rw [← Ny223.out] at ho8)); have n0_ := Aside0.mk (Kd.R_lower ho8 (below_size (by repeat (first | (with_reducible first | exact HB.out | apply below_alloc | apply pw_below_drewN | apply below_drew1) | exact HB.out)))); have n1_ := Aside0.mk (below_step (by repeat (first | (with_reducible first | exact HB.out | apply below_alloc | apply pw_below_drewN | apply below_drew1) | exact HB.out)) hb); clear HB; have HO225 := n0_; have HB := n1_; clear n0_ n1_; clear hb ho8; have hcv9 := own_string (P := Try.prog) Try.underlying36 Try.underlying5 Try.underlying9 (Kd.own_of_R HO225.out)))
            go_roundg k1
            case measure => have := HK1.out; omega
            case rel => exact ⟨((strOfNums y223) ++ x4_1), (wrap64 (Int.tdiv x5_1 10)), (by first | rfl | (simp; done) | (simp [*]; done)), (by first | rfl | (simp; done) | (simp [*]; done)), H', ⟨by have := HK1.out; omega⟩, ⟨by repeat (first | (with_reducible first | exact HB.out | apply below_alloc | apply pw_below_drewN | apply below_drew1) | exact HB.out)⟩⟩
          · rw [if_neg c6] at H
            exact absurd H (by simp)
        · rw [if_neg c5] at H
          have c5b0 : decide (0 < x5_1) = false := decide_eq_false c5
          clear c5
          by_cases c10 : x4_1.toList = ([] : List UInt8)
          · rw [if_pos c10] at H
            have c10b0 : (x4_1.toList == ([] : List UInt8)) = true := beq_iff_eq.mpr c10
            have c10b1 : (x4_1.toList != ([] : List UInt8)) = false := bne_eq_false_iff_eq.mpr c10
            clear c10
            obtain ⟨y226, hy226⟩ : ∃ y_ : List Int, y_ = (([(wrap64 (48 + (Int.tmod x5_1 10))) % 256] : List Int)) := ⟨_, rfl⟩
            replace H : (if (strOfNums y226).size + x4_1.size ≤ 9223372036854775807 then (quaerelaw21_LexNumbers.l0 k1 (wrap64 (Int.tmod (IntKind.u64.wrap (a0)) 100000)) ((strOfNums y226) ++ x4_1) (wrap64 (Int.tdiv x5_1 10))) else (none)) = some r := by first | (rw [hy226]; with_reducible exact H) | (have H2_ := (Option.bind_some _ _).symm.trans H; rw [hy226]; with_reducible exact H2_) | (have H2_ := (Option.bind_some _ _).symm.trans H; with_reducible exact H2_) | with_reducible exact H | (rw [hy226]; exact H) | exact H
            have Ny226 := Aside0.mk hy226
            clear hy226
            by_cases c11 : (strOfNums y226).size + x4_1.size ≤ 9223372036854775807
            · rw [if_pos c11] at H
              have c11b0 := eq_true c11
              have c11b1 : decide ((strOfNums y226).size + x4_1.size ≤ 9223372036854775807) = true := decide_eq_true c11
              try have c11b2 : (9223372036854775807 < (strOfNums y226).size + x4_1.size) = False := eq_false (Nat.not_lt.2 c11)
              (try (have c11b3 := c11b2; simp only [ByteArray.size_append] at c11b3))
              have H' := Aside0.mk H
              clear H
              go_wp2_with (first | ((with_reducible refine gate_dst (N := 33) rfl ?_); (try (refine gate_guard (by rfl) ?_; dsimp only)); refine Kd.R_lit (Kd.int .u8) _ 5 ?hg (N := 33) ?hd (xs := ([(wrap64 (48 + (Int.tmod x5_1 10))) % 256] : List Int)) (inner := [.int .u8 ((wrap64 (48 + (Int.tmod x5_1 10))) % 256)]) (ok := fun _ => True) (okp := fun _ => True) ?hr ?hp (fun _ hk => hk) trivial (Below.refl _ _) (Nat.le_refl _) (by simp) ?_; (case hd => rfl); (case hg => rfl); (case hr => first | (go_simp; done) | (go_simp; rfl)); (case hp => exact (Reps.one (show Kd.M (Kd.int .u8) _ _ _ ((wrap64 (48 + (Int.tmod x5_1 10))) % 256) [.int .u8 ((wrap64 (48 + (Int.tmod x5_1 10))) % 256)] from rfl) (Reps.none _ _))); intro v227 w12 ho13 hb hg_ hnew_; clear hg_ hnew_; (first | rw [← Ny226.out] at ho13 | (simp only [Int.reduceToNat] at ho13; rw [← Ny226.out] at ho13)); have n0_ := Aside0.mk (Kd.R_lower ho13 (below_size (by repeat (first | (with_reducible first | exact HB.out | apply below_alloc | apply pw_below_drewN | apply below_drew1) | exact HB.out)))); have n1_ := Aside0.mk (below_step (by repeat (first | (with_reducible first | exact HB.out | apply below_alloc | apply pw_below_drewN | apply below_drew1) | exact HB.out)) hb); clear HB; have HO228 := n0_; have HB := n1_; clear n0_ n1_; clear hb ho13; have hcv14 := own_string (P := Try.prog) Try.underlying36 Try.underlying5 Try.underlying9 (Kd.own_of_R HO228.out)))
              go_roundg k1
              case measure => have := HK1.out; omega
              case rel => exact ⟨((strOfNums y226) ++ x4_1), (wrap64 (Int.tdiv x5_1 10)), (by first | rfl | (simp; done) | (simp [*]; done)), (by first | rfl | (simp; done) | (simp [*]; done)), H', ⟨by have := HK1.out; omega⟩, ⟨by repeat (first | (with_reducible first | exact HB.out | apply below_alloc | apply pw_below_drewN | apply below_drew1) | exact HB.out)⟩⟩
            · rw [if_neg c11] at H
              exact absurd H (by simp)
          · rw [if_neg c10] at H
            have c10b0 : (x4_1.toList == ([] : List UInt8)) = false := beq_eq_false_iff_ne.mpr c10
            have c10b1 : (x4_1.toList != ([] : List UInt8)) = true := bne_iff_ne.mpr c10
            replace H := Option.bind_eq_some_iff.mp H
            obtain ⟨⟨t229, t230⟩, A150, H⟩ := H
            replace H : (if 1 + x4_1.size ≤ 9223372036854775807 then ((lex_Lex.f k1 ((⟨#[88]⟩ : ByteArray) ++ x4_1)).bind fun bt233 => ((lex_Lex.f k1 ((⟨#[48]⟩ : ByteArray) ++ x4_1)).bind fun bt237 => ((lex_Lex.f k1 ((⟨#[97]⟩ : ByteArray) ++ x4_1)).bind fun bt241 => ((quaerelaw0_Num.f t230).bind fun t245 => (if ((t245 == 0) != (decide ((wrap64 (Int.tmod (IntKind.u64.wrap (a0)) 100000)) < 10000))) = true then (quaerelaw21_LexNumbers.j1 k1 (wrap64 (Int.tmod (IntKind.u64.wrap (a0)) 100000)) x4_1 t229 bt233.1 bt241.1 true) else ((quaerelaw0_Num.f bt233.2).bind fun t246 => (if ((t246 == 0) != (decide ((wrap64 (Int.tmod (IntKind.u64.wrap (a0)) 100000)) ≤ 23))) = true then (quaerelaw21_LexNumbers.j1 k1 (wrap64 (Int.tmod (IntKind.u64.wrap (a0)) 100000)) x4_1 t229 bt233.1 bt241.1 true) else ((quaerelaw0_Num.f bt237.2).bind fun t247 => (if t247 = 2100 then ((quaerelaw0_Num.f bt241.2).bind fun t248 => (quaerelaw21_LexNumbers.j1 k1 (wrap64 (Int.tmod (IntKind.u64.wrap (a0)) 100000)) x4_1 t229 bt233.1 bt241.1 (t248 != 0))) else (quaerelaw21_LexNumbers.j1 k1 (wrap64 (Int.tmod (IntKind.u64.wrap (a0)) 100000)) x4_1 t229 bt233.1 bt241.1 true)))))))))) else (none)) = some r := H
            have A15 := Aside0.mk A150
            clear A150
            by_cases c16 : 1 + x4_1.size ≤ 9223372036854775807
            · rw [if_pos c16] at H
              have c16b0 := eq_true c16
              have c16b1 : decide (1 + x4_1.size ≤ 9223372036854775807) = true := decide_eq_true c16
              try have c16b2 : (9223372036854775807 < 1 + x4_1.size) = False := eq_false (Nat.not_lt.2 c16)
              (try (have c16b3 := c16b2; simp only [ByteArray.size_append] at c16b3))
              replace H := Option.bind_eq_some_iff.mp H
              obtain ⟨⟨t233, t234⟩, A170, H⟩ := H
              replace H : ((lex_Lex.f k1 ((⟨#[48]⟩ : ByteArray) ++ x4_1)).bind fun bt237 => ((lex_Lex.f k1 ((⟨#[97]⟩ : ByteArray) ++ x4_1)).bind fun bt241 => ((quaerelaw0_Num.f t230).bind fun t245 => (if ((t245 == 0) != (decide ((wrap64 (Int.tmod (IntKind.u64.wrap (a0)) 100000)) < 10000))) = true then (quaerelaw21_LexNumbers.j1 k1 (wrap64 (Int.tmod (IntKind.u64.wrap (a0)) 100000)) x4_1 t229 t233 bt241.1 true) else ((quaerelaw0_Num.f t234).bind fun t246 => (if ((t246 == 0) != (decide ((wrap64 (Int.tmod (IntKind.u64.wrap (a0)) 100000)) ≤ 23))) = true then (quaerelaw21_LexNumbers.j1 k1 (wrap64 (Int.tmod (IntKind.u64.wrap (a0)) 100000)) x4_1 t229 t233 bt241.1 true) else ((quaerelaw0_Num.f bt237.2).bind fun t247 => (if t247 = 2100 then ((quaerelaw0_Num.f bt241.2).bind fun t248 => (quaerelaw21_LexNumbers.j1 k1 (wrap64 (Int.tmod (IntKind.u64.wrap (a0)) 100000)) x4_1 t229 t233 bt241.1 (t248 != 0))) else (quaerelaw21_LexNumbers.j1 k1 (wrap64 (Int.tmod (IntKind.u64.wrap (a0)) 100000)) x4_1 t229 t233 bt241.1 true))))))))) = some r := H
              have A17 := Aside0.mk A170
              clear A170
              replace H := Option.bind_eq_some_iff.mp H
              obtain ⟨⟨t237, t238⟩, A180, H⟩ := H
              replace H : ((lex_Lex.f k1 ((⟨#[97]⟩ : ByteArray) ++ x4_1)).bind fun bt241 => ((quaerelaw0_Num.f t230).bind fun t245 => (if ((t245 == 0) != (decide ((wrap64 (Int.tmod (IntKind.u64.wrap (a0)) 100000)) < 10000))) = true then (quaerelaw21_LexNumbers.j1 k1 (wrap64 (Int.tmod (IntKind.u64.wrap (a0)) 100000)) x4_1 t229 t233 bt241.1 true) else ((quaerelaw0_Num.f t234).bind fun t246 => (if ((t246 == 0) != (decide ((wrap64 (Int.tmod (IntKind.u64.wrap (a0)) 100000)) ≤ 23))) = true then (quaerelaw21_LexNumbers.j1 k1 (wrap64 (Int.tmod (IntKind.u64.wrap (a0)) 100000)) x4_1 t229 t233 bt241.1 true) else ((quaerelaw0_Num.f t238).bind fun t247 => (if t247 = 2100 then ((quaerelaw0_Num.f bt241.2).bind fun t248 => (quaerelaw21_LexNumbers.j1 k1 (wrap64 (Int.tmod (IntKind.u64.wrap (a0)) 100000)) x4_1 t229 t233 bt241.1 (t248 != 0))) else (quaerelaw21_LexNumbers.j1 k1 (wrap64 (Int.tmod (IntKind.u64.wrap (a0)) 100000)) x4_1 t229 t233 bt241.1 true)))))))) = some r := H
              have A18 := Aside0.mk A180
              clear A180
              replace H := Option.bind_eq_some_iff.mp H
              obtain ⟨⟨t241, t242⟩, A190, H⟩ := H
              replace H : ((quaerelaw0_Num.f t230).bind fun t245 => (if ((t245 == 0) != (decide ((wrap64 (Int.tmod (IntKind.u64.wrap (a0)) 100000)) < 10000))) = true then (quaerelaw21_LexNumbers.j1 k1 (wrap64 (Int.tmod (IntKind.u64.wrap (a0)) 100000)) x4_1 t229 t233 t241 true) else ((quaerelaw0_Num.f t234).bind fun t246 => (if ((t246 == 0) != (decide ((wrap64 (Int.tmod (IntKind.u64.wrap (a0)) 100000)) ≤ 23))) = true then (quaerelaw21_LexNumbers.j1 k1 (wrap64 (Int.tmod (IntKind.u64.wrap (a0)) 100000)) x4_1 t229 t233 t241 true) else ((quaerelaw0_Num.f t238).bind fun t247 => (if t247 = 2100 then ((quaerelaw0_Num.f t242).bind fun t248 => (quaerelaw21_LexNumbers.j1 k1 (wrap64 (Int.tmod (IntKind.u64.wrap (a0)) 100000)) x4_1 t229 t233 t241 (t248 != 0))) else (quaerelaw21_LexNumbers.j1 k1 (wrap64 (Int.tmod (IntKind.u64.wrap (a0)) 100000)) x4_1 t229 t233 t241 true))))))) = some r := H
              have A19 := Aside0.mk A190
              clear A190
              have HC20 := Aside0.mk H
              clear H
              go_upto_region 13 with (first | ((with_reducible refine gate_callee (f := 8) rfl ?_); refine goesL_ (some 39) rfl rfl Try.func8 (by kernel_rfl) rfl #[.string x4_1] rfl (by (try simp only [List.map_toArray, List.map_cons, List.map_nil]); first | done | rfl | (simp only [List.length_drop, List.length_take]; rfl)) ?_; (with_reducible refine (lex_Lex.calls k1 x4_1 t229 t230 _ A15.out).mono ?_); rintro e w21 ⟨v231, rfl, ho0, hb⟩; refine ⟨_, rfl, ?_⟩; have n0_ := Aside0.mk (Kd.R_lower ho0 (below_size (by repeat (first | (with_reducible first | exact HB.out | apply below_alloc | apply pw_below_drewN | apply below_drew1) | exact HB.out)))); have n1_ := Aside0.mk (below_step (by repeat (first | (with_reducible first | exact HB.out | apply below_alloc | apply pw_below_drewN | apply below_drew1) | exact HB.out)) hb); clear HB; have HO232 := n0_; have HB := n1_; clear n0_ n1_; (try clear hb); (try clear hb2); (try clear hk); (try clear hi); (try clear ho0)) | ((with_reducible refine gate_callee (f := 8) rfl ?_); refine goesL_ (some 45) rfl rfl Try.func8 (by kernel_rfl) rfl #[.string ((⟨#[88]⟩ : ByteArray) ++ x4_1)] rfl (by (try simp only [List.map_toArray, List.map_cons, List.map_nil]); first | done | rfl | (simp only [List.length_drop, List.length_take]; rfl)) ?_; (with_reducible refine (lex_Lex.calls k1 ((⟨#[88]⟩ : ByteArray) ++ x4_1) t233 t234 _ A17.out).mono ?_); rintro e w22 ⟨v235, rfl, ho0, hb⟩; refine ⟨_, rfl, ?_⟩; have n0_ := Aside0.mk (Kd.R_elder' (by (with_reducible repeat (first | apply Kd.R_alloc | apply Kd.R_drewN | apply Kd.R_drew)); exact HO232.out) (Kd.R_base ho0) hb); have n1_ := Aside0.mk (Kd.R_lower (Kd.R_new' ho0 (Kd.R_lt (by (with_reducible repeat (first | apply Kd.R_alloc | apply Kd.R_drewN | apply Kd.R_drew)); exact HO232.out))) (below_size (by repeat (first | (with_reducible first | exact HB.out | apply below_alloc | apply pw_below_drewN | apply below_drew1) | exact HB.out)))); have n2_ := Aside0.mk (below_step (by repeat (first | (with_reducible first | exact HB.out | apply below_alloc | apply pw_below_drewN | apply below_drew1) | exact HB.out)) hb); clear HO232; clear HB; have HO232 := n0_; have HO236 := n1_; have HB := n2_; clear n0_ n1_ n2_; (try clear hb); (try clear hb2); (try clear hk); (try clear hi); (try clear ho0)) | ((with_reducible refine gate_callee (f := 8) rfl ?_); refine goesL_ (some 51) rfl rfl Try.func8 (by kernel_rfl) rfl #[.string ((⟨#[48]⟩ : ByteArray) ++ x4_1)] rfl (by (try simp only [List.map_toArray, List.map_cons, List.map_nil]); first | done | rfl | (simp only [List.length_drop, List.length_take]; rfl)) ?_; (with_reducible refine (lex_Lex.calls k1 ((⟨#[48]⟩ : ByteArray) ++ x4_1) t237 t238 _ A18.out).mono ?_); rintro e w23 ⟨v239, rfl, ho0, hb⟩; refine ⟨_, rfl, ?_⟩; have n0_ := Aside0.mk (Kd.R_elder' (by (with_reducible repeat (first | apply Kd.R_alloc | apply Kd.R_drewN | apply Kd.R_drew)); exact HO232.out) (Kd.R_base ho0) hb); have n1_ := Aside0.mk (Kd.R_elder' (by (with_reducible repeat (first | apply Kd.R_alloc | apply Kd.R_drewN | apply Kd.R_drew)); exact HO236.out) (Kd.R_base ho0) hb); have n2_ := Aside0.mk (Kd.R_lower (Kd.R_new' (Kd.R_new' ho0 (Kd.R_lt (by (with_reducible repeat (first | apply Kd.R_alloc | apply Kd.R_drewN | apply Kd.R_drew)); exact HO232.out))) (Kd.R_lt (by (with_reducible repeat (first | apply Kd.R_alloc | apply Kd.R_drewN | apply Kd.R_drew)); exact HO236.out))) (below_size (by repeat (first | (with_reducible first | exact HB.out | apply below_alloc | apply pw_below_drewN | apply below_drew1) | exact HB.out)))); have n3_ := Aside0.mk (below_step (by repeat (first | (with_reducible first | exact HB.out | apply below_alloc | apply pw_below_drewN | apply below_drew1) | exact HB.out)) hb); clear HO232; clear HO236; clear HB; have HO232 := n0_; have HO236 := n1_; have HO240 := n2_; have HB := n3_; clear n0_ n1_ n2_ n3_; (try clear hb); (try clear hb2); (try clear hk); (try clear hi); (try clear ho0)) | ((with_reducible refine gate_callee (f := 8) rfl ?_); refine goesL_ (some 57) rfl rfl Try.func8 (by kernel_rfl) rfl #[.string ((⟨#[97]⟩ : ByteArray) ++ x4_1)] rfl (by (try simp only [List.map_toArray, List.map_cons, List.map_nil]); first | done | rfl | (simp only [List.length_drop, List.length_take]; rfl)) ?_; (with_reducible refine (lex_Lex.calls k1 ((⟨#[97]⟩ : ByteArray) ++ x4_1) t241 t242 _ A19.out).mono ?_); rintro e w24 ⟨v243, rfl, ho0, hb⟩; refine ⟨_, rfl, ?_⟩; have n0_ := Aside0.mk (Kd.R_elder' (by (with_reducible repeat (first | apply Kd.R_alloc | apply Kd.R_drewN | apply Kd.R_drew)); exact HO232.out) (Kd.R_base ho0) hb); have n1_ := Aside0.mk (Kd.R_elder' (by (with_reducible repeat (first | apply Kd.R_alloc | apply Kd.R_drewN | apply Kd.R_drew)); exact HO236.out) (Kd.R_base ho0) hb); have n2_ := Aside0.mk (Kd.R_elder' (by (with_reducible repeat (first | apply Kd.R_alloc | apply Kd.R_drewN | apply Kd.R_drew)); exact HO240.out) (Kd.R_base ho0) hb); have n3_ := Aside0.mk (Kd.R_lower (Kd.R_new' (Kd.R_new' (Kd.R_new' ho0 (Kd.R_lt (by (with_reducible repeat (first | apply Kd.R_alloc | apply Kd.R_drewN | apply Kd.R_drew)); exact HO232.out))) (Kd.R_lt (by (with_reducible repeat (first | apply Kd.R_alloc | apply Kd.R_drewN | apply Kd.R_drew)); exact HO236.out))) (Kd.R_lt (by (with_reducible repeat (first | apply Kd.R_alloc | apply Kd.R_drewN | apply Kd.R_drew)); exact HO240.out))) (below_size (by repeat (first | (with_reducible first | exact HB.out | apply below_alloc | apply pw_below_drewN | apply below_drew1) | exact HB.out)))); have n4_ := Aside0.mk (below_step (by repeat (first | (with_reducible first | exact HB.out | apply below_alloc | apply pw_below_drewN | apply below_drew1) | exact HB.out)) hb); clear HO232; clear HO236; clear HO240; clear HB; have HO232 := n0_; have HO236 := n1_; have HO240 := n2_; have HO244 := n3_; have HB := n4_; clear n0_ n1_ n2_ n3_ n4_; (try clear hb); (try clear hb2); (try clear hk); (try clear hi); (try clear ho0)))
              (try simp only [Act.put, List.setIfInBounds_toArray, List.set_cons_zero, List.set_cons_succ])
              go_cut [83] (fun v83 wc => ∃ (kq : Nat) (x83_19 : Bool), v83 = .bool x83_19 ∧ Aside0 (quaerelaw21_LexNumbers.j1 kq (wrap64 (Int.tmod (IntKind.u64.wrap (a0)) 100000)) x4_1 t229 t233 t241 x83_19 = some r) ∧ Aside0 (kq ≤ k1) ∧ Aside0 (Kd.R k33 33 wc w.heap.size (fun k_ => some k_ ≠ (v235 : Value).ownBlock ∧ some k_ ≠ (v243 : Value).ownBlock) v231 t229) ∧ Aside0 (Kd.R k33 33 wc w.heap.size (fun k_ => some k_ ≠ (v231 : Value).ownBlock ∧ some k_ ≠ (v243 : Value).ownBlock) v235 t233) ∧ Aside0 (Kd.R k33 33 wc w.heap.size (fun k_ => some k_ ≠ (v231 : Value).ownBlock ∧ some k_ ≠ (v235 : Value).ownBlock) v243 t241) ∧ Aside0 (Below w.heap.size w wc))
              case first =>
                have H := HC20.out
                clear HC20
                replace H := Option.bind_eq_some_iff.mp H
                obtain ⟨t245, A250, H⟩ := H
                replace H : (if ((t245 == 0) != (decide ((wrap64 (Int.tmod (IntKind.u64.wrap (a0)) 100000)) < 10000))) = true then (quaerelaw21_LexNumbers.j1 k1 (wrap64 (Int.tmod (IntKind.u64.wrap (a0)) 100000)) x4_1 t229 t233 t241 true) else ((quaerelaw0_Num.f t234).bind fun t246 => (if ((t246 == 0) != (decide ((wrap64 (Int.tmod (IntKind.u64.wrap (a0)) 100000)) ≤ 23))) = true then (quaerelaw21_LexNumbers.j1 k1 (wrap64 (Int.tmod (IntKind.u64.wrap (a0)) 100000)) x4_1 t229 t233 t241 true) else ((quaerelaw0_Num.f t238).bind fun t247 => (if t247 = 2100 then ((quaerelaw0_Num.f t242).bind fun t248 => (quaerelaw21_LexNumbers.j1 k1 (wrap64 (Int.tmod (IntKind.u64.wrap (a0)) 100000)) x4_1 t229 t233 t241 (t248 != 0))) else (quaerelaw21_LexNumbers.j1 k1 (wrap64 (Int.tmod (IntKind.u64.wrap (a0)) 100000)) x4_1 t229 t233 t241 true)))))) = some r := H
                have A25 := Aside0.mk A250
                clear A250
                by_cases c26 : ((t245 == 0) != (decide ((wrap64 (Int.tmod (IntKind.u64.wrap (a0)) 100000)) < 10000))) = true
                · rw [if_pos c26] at H
                  have c26b0 : ((t245 == 0) != (decide ((wrap64 (Int.tmod (IntKind.u64.wrap (a0)) 100000)) < 10000))) = true := c26
                  (try (have c26b1 : decide ((t245 == 0) = (decide ((wrap64 (Int.tmod (IntKind.u64.wrap (a0)) 100000)) < 10000))) = false := by simpa using c26))
                  (try (have c26b2 : ((t245 == 0) == (decide ((wrap64 (Int.tmod (IntKind.u64.wrap (a0)) 100000)) < 10000))) = false := by simpa using c26))
                  (try (have c26b3 : ¬ ((t245 == 0) = (decide ((wrap64 (Int.tmod (IntKind.u64.wrap (a0)) 100000)) < 10000))) := by simpa using c26))
                  clear c26
                  (first | rw [c26b0] | (simp only [i64_w, i32_w]; rw [c26b0]) | skip)
                  have H' := Aside0.mk H
                  clear H
                  go_wp2_with (first | ((with_reducible refine gate_callee (f := 11) rfl ?_); refine goesL_ (some 61) rfl rfl Try.func11 (by kernel_rfl) rfl #[.int .i64 t230] rfl (by (try simp only [List.map_toArray, List.map_cons, List.map_nil]); first | done | rfl | (simp only [List.length_drop, List.length_take]; rfl)) ?_; (with_reducible refine (quaerelaw0_Num.calls t230 t245 _ A25.out).mono ?_); rintro e w' ⟨rfl, ⟨nd, rfl⟩⟩; refine ⟨_, rfl, ?_⟩))
                  go_meet
                  case rel => exact ⟨_, (true), (by first | rfl | (simp; done) | (simp [*]; done)), H', ⟨by have := HK1.out; first | omega | exact Nat.le_refl _⟩, ⟨by (with_reducible repeat (first | apply Kd.R_alloc | apply Kd.R_drewN | apply Kd.R_drew)); exact Kd.R_mono HO232.out (fun _ hk => ⟨hk.1.1.2, hk.2⟩)⟩, ⟨by (with_reducible repeat (first | apply Kd.R_alloc | apply Kd.R_drewN | apply Kd.R_drew)); exact Kd.R_mono HO236.out (fun _ hk => ⟨hk.1.1.2, hk.2⟩)⟩, ⟨by (with_reducible repeat (first | apply Kd.R_alloc | apply Kd.R_drewN | apply Kd.R_drew)); exact Kd.R_mono HO244.out (fun _ hk => ⟨hk.1.1.2, hk.1.2⟩)⟩, ⟨by repeat (first | (with_reducible first | exact HB.out | apply below_alloc | apply pw_below_drewN | apply below_drew1) | exact HB.out)⟩⟩
                · rw [if_neg c26] at H
                  have c26b0 : ((t245 == 0) != (decide ((wrap64 (Int.tmod (IntKind.u64.wrap (a0)) 100000)) < 10000))) = false := by simpa using c26
                  (try (have c26b1 : decide ((t245 == 0) = (decide ((wrap64 (Int.tmod (IntKind.u64.wrap (a0)) 100000)) < 10000))) = true := by simpa using c26))
                  (try (have c26b2 : ((t245 == 0) == (decide ((wrap64 (Int.tmod (IntKind.u64.wrap (a0)) 100000)) < 10000))) = true := by simpa using c26))
                  clear c26
                  (first | rw [c26b0] | (simp only [i64_w, i32_w]; rw [c26b0]) | skip)
                  replace H := Option.bind_eq_some_iff.mp H
                  obtain ⟨t246, A270, H⟩ := H
                  replace H : (if ((t246 == 0) != (decide ((wrap64 (Int.tmod (IntKind.u64.wrap (a0)) 100000)) ≤ 23))) = true then (quaerelaw21_LexNumbers.j1 k1 (wrap64 (Int.tmod (IntKind.u64.wrap (a0)) 100000)) x4_1 t229 t233 t241 true) else ((quaerelaw0_Num.f t238).bind fun t247 => (if t247 = 2100 then ((quaerelaw0_Num.f t242).bind fun t248 => (quaerelaw21_LexNumbers.j1 k1 (wrap64 (Int.tmod (IntKind.u64.wrap (a0)) 100000)) x4_1 t229 t233 t241 (t248 != 0))) else (quaerelaw21_LexNumbers.j1 k1 (wrap64 (Int.tmod (IntKind.u64.wrap (a0)) 100000)) x4_1 t229 t233 t241 true)))) = some r := H
                  have A27 := Aside0.mk A270
                  clear A270
                  by_cases c28 : ((t246 == 0) != (decide ((wrap64 (Int.tmod (IntKind.u64.wrap (a0)) 100000)) ≤ 23))) = true
                  · rw [if_pos c28] at H
                    have c28b0 : ((t246 == 0) != (decide ((wrap64 (Int.tmod (IntKind.u64.wrap (a0)) 100000)) ≤ 23))) = true := c28
                    (try (have c28b1 : decide ((t246 == 0) = (decide ((wrap64 (Int.tmod (IntKind.u64.wrap (a0)) 100000)) ≤ 23))) = false := by simpa using c28))
                    (try (have c28b2 : ((t246 == 0) == (decide ((wrap64 (Int.tmod (IntKind.u64.wrap (a0)) 100000)) ≤ 23))) = false := by simpa using c28))
                    (try (have c28b3 : ¬ ((t246 == 0) = (decide ((wrap64 (Int.tmod (IntKind.u64.wrap (a0)) 100000)) ≤ 23))) := by simpa using c28))
                    clear c28
                    have H' := Aside0.mk H
                    clear H
                    go_wp2_with (first | ((with_reducible refine gate_callee (f := 11) rfl ?_); refine goesL_ (some 61) rfl rfl Try.func11 (by kernel_rfl) rfl #[.int .i64 t230] rfl (by (try simp only [List.map_toArray, List.map_cons, List.map_nil]); first | done | rfl | (simp only [List.length_drop, List.length_take]; rfl)) ?_; (with_reducible refine (quaerelaw0_Num.calls t230 t245 _ A25.out).mono ?_); rintro e w' ⟨rfl, ⟨nd, rfl⟩⟩; refine ⟨_, rfl, ?_⟩) | (go_at_call 11; (with_reducible refine (quaerelaw0_Num.calls t234 t246 _ A27.out).mono ?_); rintro e w' ⟨rfl, ⟨nd, rfl⟩⟩))
                    go_meet
                    case rel => exact ⟨_, (true), (by first | rfl | (simp; done) | (simp [*]; done)), H', ⟨by have := HK1.out; first | omega | exact Nat.le_refl _⟩, ⟨by (with_reducible repeat (first | apply Kd.R_alloc | apply Kd.R_drewN | apply Kd.R_drew)); exact Kd.R_mono HO232.out (fun _ hk => ⟨hk.1.1.2, hk.2⟩)⟩, ⟨by (with_reducible repeat (first | apply Kd.R_alloc | apply Kd.R_drewN | apply Kd.R_drew)); exact Kd.R_mono HO236.out (fun _ hk => ⟨hk.1.1.2, hk.2⟩)⟩, ⟨by (with_reducible repeat (first | apply Kd.R_alloc | apply Kd.R_drewN | apply Kd.R_drew)); exact Kd.R_mono HO244.out (fun _ hk => ⟨hk.1.1.2, hk.1.2⟩)⟩, ⟨by repeat (first | (with_reducible first | exact HB.out | apply below_alloc | apply pw_below_drewN | apply below_drew1) | exact HB.out)⟩⟩
                  · rw [if_neg c28] at H
                    have c28b0 : ((t246 == 0) != (decide ((wrap64 (Int.tmod (IntKind.u64.wrap (a0)) 100000)) ≤ 23))) = false := by simpa using c28
                    (try (have c28b1 : decide ((t246 == 0) = (decide ((wrap64 (Int.tmod (IntKind.u64.wrap (a0)) 100000)) ≤ 23))) = true := by simpa using c28))
                    (try (have c28b2 : ((t246 == 0) == (decide ((wrap64 (Int.tmod (IntKind.u64.wrap (a0)) 100000)) ≤ 23))) = true := by simpa using c28))
                    clear c28
                    replace H := Option.bind_eq_some_iff.mp H
                    obtain ⟨t247, A290, H⟩ := H
                    replace H : (if t247 = 2100 then ((quaerelaw0_Num.f t242).bind fun t248 => (quaerelaw21_LexNumbers.j1 k1 (wrap64 (Int.tmod (IntKind.u64.wrap (a0)) 100000)) x4_1 t229 t233 t241 (t248 != 0))) else (quaerelaw21_LexNumbers.j1 k1 (wrap64 (Int.tmod (IntKind.u64.wrap (a0)) 100000)) x4_1 t229 t233 t241 true)) = some r := H
                    have A29 := Aside0.mk A290
                    clear A290
                    by_cases c30 : t247 = 2100
                    · rw [if_pos c30] at H
                      have c30b0 : (t247 == 2100) = true := beq_iff_eq.mpr c30
                      have c30b1 : (t247 != 2100) = false := bne_eq_false_iff_eq.mpr c30
                      clear c30
                      replace H := Option.bind_eq_some_iff.mp H
                      obtain ⟨t248, A310, H⟩ := H
                      replace H : (quaerelaw21_LexNumbers.j1 k1 (wrap64 (Int.tmod (IntKind.u64.wrap (a0)) 100000)) x4_1 t229 t233 t241 (t248 != 0)) = some r := H
                      have A31 := Aside0.mk A310
                      clear A310
                      have H' := Aside0.mk H
                      clear H
                      go_wp2_with (first | ((with_reducible refine gate_callee (f := 11) rfl ?_); refine goesL_ (some 61) rfl rfl Try.func11 (by kernel_rfl) rfl #[.int .i64 t230] rfl (by (try simp only [List.map_toArray, List.map_cons, List.map_nil]); first | done | rfl | (simp only [List.length_drop, List.length_take]; rfl)) ?_; (with_reducible refine (quaerelaw0_Num.calls t230 t245 _ A25.out).mono ?_); rintro e w' ⟨rfl, ⟨nd, rfl⟩⟩; refine ⟨_, rfl, ?_⟩) | (go_at_call 11; (with_reducible refine (quaerelaw0_Num.calls t234 t246 _ A27.out).mono ?_); rintro e w' ⟨rfl, ⟨nd, rfl⟩⟩) | (go_at_call 11; (with_reducible refine (quaerelaw0_Num.calls t238 t247 _ A29.out).mono ?_); rintro e w' ⟨rfl, ⟨nd, rfl⟩⟩) | (go_at_call 11; (with_reducible refine (quaerelaw0_Num.calls t242 t248 _ A31.out).mono ?_); rintro e w' ⟨rfl, ⟨nd, rfl⟩⟩))
                      go_meet
                      case rel => exact ⟨_, ((t248 != 0)), (by first | rfl | (simp; done) | (simp [*]; done)), H', ⟨by have := HK1.out; first | omega | exact Nat.le_refl _⟩, ⟨by (with_reducible repeat (first | apply Kd.R_alloc | apply Kd.R_drewN | apply Kd.R_drew)); exact Kd.R_mono HO232.out (fun _ hk => ⟨hk.1.1.2, hk.2⟩)⟩, ⟨by (with_reducible repeat (first | apply Kd.R_alloc | apply Kd.R_drewN | apply Kd.R_drew)); exact Kd.R_mono HO236.out (fun _ hk => ⟨hk.1.1.2, hk.2⟩)⟩, ⟨by (with_reducible repeat (first | apply Kd.R_alloc | apply Kd.R_drewN | apply Kd.R_drew)); exact Kd.R_mono HO244.out (fun _ hk => ⟨hk.1.1.2, hk.1.2⟩)⟩, ⟨by repeat (first | (with_reducible first | exact HB.out | apply below_alloc | apply pw_below_drewN | apply below_drew1) | exact HB.out)⟩⟩
                    · rw [if_neg c30] at H
                      have c30b0 : (t247 == 2100) = false := beq_eq_false_iff_ne.mpr c30
                      have c30b1 : (t247 != 2100) = true := bne_iff_ne.mpr c30
                      have H' := Aside0.mk H
                      clear H
                      go_wp2_with (first | ((with_reducible refine gate_callee (f := 11) rfl ?_); refine goesL_ (some 61) rfl rfl Try.func11 (by kernel_rfl) rfl #[.int .i64 t230] rfl (by (try simp only [List.map_toArray, List.map_cons, List.map_nil]); first | done | rfl | (simp only [List.length_drop, List.length_take]; rfl)) ?_; (with_reducible refine (quaerelaw0_Num.calls t230 t245 _ A25.out).mono ?_); rintro e w' ⟨rfl, ⟨nd, rfl⟩⟩; refine ⟨_, rfl, ?_⟩) | (go_at_call 11; (with_reducible refine (quaerelaw0_Num.calls t234 t246 _ A27.out).mono ?_); rintro e w' ⟨rfl, ⟨nd, rfl⟩⟩) | (go_at_call 11; (with_reducible refine (quaerelaw0_Num.calls t238 t247 _ A29.out).mono ?_); rintro e w' ⟨rfl, ⟨nd, rfl⟩⟩))
                      go_meet
                      case rel => exact ⟨_, (true), (by first | rfl | (simp; done) | (simp [*]; done)), H', ⟨by have := HK1.out; first | omega | exact Nat.le_refl _⟩, ⟨by (with_reducible repeat (first | apply Kd.R_alloc | apply Kd.R_drewN | apply Kd.R_drew)); exact Kd.R_mono HO232.out (fun _ hk => ⟨hk.1.1.2, hk.2⟩)⟩, ⟨by (with_reducible repeat (first | apply Kd.R_alloc | apply Kd.R_drewN | apply Kd.R_drew)); exact Kd.R_mono HO236.out (fun _ hk => ⟨hk.1.1.2, hk.2⟩)⟩, ⟨by (with_reducible repeat (first | apply Kd.R_alloc | apply Kd.R_drewN | apply Kd.R_drew)); exact Kd.R_mono HO244.out (fun _ hk => ⟨hk.1.1.2, hk.1.2⟩)⟩, ⟨by repeat (first | (with_reducible first | exact HB.out | apply below_alloc | apply pw_below_drewN | apply below_drew1) | exact HB.out)⟩⟩
              case rest =>
                clear HC20
                try clear c1
                try clear hcv1
                try clear c2
                try clear p2
                try clear c3
                try clear c5
                try clear c5b0
                try clear c6
                try clear c6b0
                try clear c6b1
                try clear c6b2
                try clear p6
                try clear c8
                try clear hcv9
                try clear c10
                try clear c10b0
                try clear c10b1
                try clear c11
                try clear c11b0
                try clear c11b1
                try clear c11b2
                try clear c12
                try clear hcv14
                try clear c16
                try clear c16b0
                try clear c16b1
                try clear c16b2
                try clear c26
                try clear c26b0
                try clear c26b1
                try clear c26b2
                try clear c28
                try clear c28b0
                try clear c28b1
                try clear c28b2
                try clear c30
                try clear c30b0
                try clear c30b1
                try clear p2
                obtain ⟨kq, x83_19, rfl, HA, HJ19, HO_6, HO_8, HO_12, HB⟩ := hcut
                cases kq with
                | zero => exact absurd HA.out (by simp [quaerelaw21_LexNumbers.j1])
                | succ kj19 =>
                  have H := HA.out
                  clear HA
                  simp only [quaerelaw21_LexNumbers.j1] at H
                  by_cases c32 : x83_19 = true
                  · subst c32
                    have H1 : (some false) = some r := by rw [if_pos rfl] at H; exact H
                    clear H
                    have H := H1
                    clear H1
                    obtain rfl := Option.some.inj H
                    go_wp2
                    go_ret
                    exact ⟨by first | rfl | (simp [errW_none, errW_some] <;> rfl) | (simp [*, errW_none, errW_some] <;> rfl), by repeat (first | (with_reducible first | exact HB.out | apply below_alloc | apply pw_below_drewN | apply below_drew1) | exact HB.out)⟩
                  · replace c32 := Bool.eq_false_iff.mpr c32
                    subst c32
                    have H1 : (if (wrap64 (Int.tmod (IntKind.u64.wrap (a0)) 100000)) ≥ 10000 then (if (wrap64 (Int.tmod (IntKind.u64.wrap (a0)) 100000)) > 23 then (if 1 + x4_1.size ≤ 9223372036854775807 then ((quaerelaw0_SameWords.f kj19 t241 (([(⟨0, (⟨#[97]⟩ : ByteArray) ++ x4_1⟩ : S33)] : List (S33)))).bind fun t252 => (some t252)) else (none)) else (if 1 + x4_1.size ≤ 9223372036854775807 then ((quaerelaw0_SameWords.f kj19 t233 (([(⟨1, (⟨#[88]⟩ : ByteArray) ++ x4_1⟩ : S33)] : List (S33)))).bind fun t256 => (if t256 = true then ((quaerelaw0_SameWords.f kj19 t241 (([(⟨0, (⟨#[97]⟩ : ByteArray) ++ x4_1⟩ : S33)] : List (S33)))).bind fun t260 => (some t260)) else (some false))) else (none))) else ((quaerelaw0_SameWords.f kj19 t229 (([(⟨2, x4_1⟩ : S33)] : List (S33)))).bind fun t264 => (if t264 = true then (if (wrap64 (Int.tmod (IntKind.u64.wrap (a0)) 100000)) > 23 then (if 1 + x4_1.size ≤ 9223372036854775807 then ((quaerelaw0_SameWords.f kj19 t241 (([(⟨0, (⟨#[97]⟩ : ByteArray) ++ x4_1⟩ : S33)] : List (S33)))).bind fun t268 => (some t268)) else (none)) else (if 1 + x4_1.size ≤ 9223372036854775807 then ((quaerelaw0_SameWords.f kj19 t233 (([(⟨1, (⟨#[88]⟩ : ByteArray) ++ x4_1⟩ : S33)] : List (S33)))).bind fun t272 => (if t272 = true then ((quaerelaw0_SameWords.f kj19 t241 (([(⟨0, (⟨#[97]⟩ : ByteArray) ++ x4_1⟩ : S33)] : List (S33)))).bind fun t276 => (some t276)) else (some false))) else (none))) else (some false)))) = some r := by rw [if_neg (show ¬ (false = true) by decide)] at H; exact H
                    clear H
                    have H := H1
                    clear H1
                    by_cases c33 : (wrap64 (Int.tmod (IntKind.u64.wrap (a0)) 100000)) ≥ 10000
                    · rw [if_pos c33] at H
                      have c33b0 : decide (10000 ≤ (wrap64 (Int.tmod (IntKind.u64.wrap (a0)) 100000))) = true := decide_eq_true c33
                      clear c33
                      by_cases c34 : (wrap64 (Int.tmod (IntKind.u64.wrap (a0)) 100000)) > 23
                      · rw [if_pos c34] at H
                        have c34b0 : decide (23 < (wrap64 (Int.tmod (IntKind.u64.wrap (a0)) 100000))) = true := decide_eq_true c34
                        clear c34
                        by_cases c35 : 1 + x4_1.size ≤ 9223372036854775807
                        · rw [if_pos c35] at H
                          have c35b0 := eq_true c35
                          have c35b1 : decide (1 + x4_1.size ≤ 9223372036854775807) = true := decide_eq_true c35
                          try have c35b2 : (9223372036854775807 < 1 + x4_1.size) = False := eq_false (Nat.not_lt.2 c35)
                          (try (have c35b3 := c35b2; simp only [ByteArray.size_append] at c35b3))
                          obtain ⟨y249, hy249⟩ : ∃ y_ : List (S33), y_ = (([(⟨0, (⟨#[97]⟩ : ByteArray) ++ x4_1⟩ : S33)] : List (S33))) := ⟨_, rfl⟩
                          replace H : ((quaerelaw0_SameWords.f kj19 t241 y249).bind fun t252 => (some t252)) = some r := by first | (rw [hy249]; with_reducible exact H) | (have H2_ := (Option.bind_some _ _).symm.trans H; rw [hy249]; with_reducible exact H2_) | (have H2_ := (Option.bind_some _ _).symm.trans H; with_reducible exact H2_) | with_reducible exact H | (rw [hy249]; exact H) | exact H
                          have Ny249 := Aside0.mk hy249
                          clear hy249
                          replace H := Option.bind_eq_some_iff.mp H
                          obtain ⟨t252, A360, H⟩ := H
                          replace H : (some t252) = some r := H
                          have A36 := Aside0.mk A360
                          clear A360
                          obtain rfl := Option.some.inj H
                          go_wp2_with (first | ((with_reducible refine gate_dst (N := 110) rfl ?_); (try (refine gate_guard (by rfl) ?_; dsimp only)); refine Kd.R_lit k33 _ 33 ?hg (N := 110) ?hd (xs := ([(⟨0, (⟨#[97]⟩ : ByteArray) ++ x4_1⟩ : S33)] : List (S33))) (inner := [.int .i64 0, .string ((⟨#[97]⟩ : ByteArray) ++ x4_1)]) (ok := fun _ => True) (okp := fun _ => True) ?hr ?hp (fun _ hk => hk) trivial (Below.refl _ _) (Nat.le_refl _) (by simp) ?_; (case hd => rfl); (case hg => rfl); (case hr => first | (go_simp; done) | (go_simp; rfl)); (case hp => exact (Reps.c2 (show Kd.M k33 _ _ _ (⟨0, (⟨#[97]⟩ : ByteArray) ++ x4_1⟩ : S33) [.int .i64 0, .string ((⟨#[97]⟩ : ByteArray) ++ x4_1)] from (k33_mkM _ _ _ (⟨0, (⟨#[97]⟩ : ByteArray) ++ x4_1⟩ : S33) )) (Reps.none _ _))); intro v250 w37 ho38 hb hg_ hnew_; clear hg_ hnew_; (first | rw [← Ny249.out] at ho38 | (simp only [Int.reduceToNat] at ho38; rw [← Ny249.out] at ho38)); have n0_ := Aside0.mk (Kd.R_elder' (by (with_reducible repeat (first | apply Kd.R_alloc | apply Kd.R_drewN | apply Kd.R_drew)); exact HO_6.out) (Kd.R_base ho38) hb); have n1_ := Aside0.mk (Kd.R_elder' (by (with_reducible repeat (first | apply Kd.R_alloc | apply Kd.R_drewN | apply Kd.R_drew)); exact HO_8.out) (Kd.R_base ho38) hb); have n2_ := Aside0.mk (Kd.R_elder' (by (with_reducible repeat (first | apply Kd.R_alloc | apply Kd.R_drewN | apply Kd.R_drew)); exact HO_12.out) (Kd.R_base ho38) hb); have n3_ := Aside0.mk (Kd.R_lower (Kd.R_new' (Kd.R_new' (Kd.R_new' ho38 (Kd.R_lt (by (with_reducible repeat (first | apply Kd.R_alloc | apply Kd.R_drewN | apply Kd.R_drew)); exact HO_6.out))) (Kd.R_lt (by (with_reducible repeat (first | apply Kd.R_alloc | apply Kd.R_drewN | apply Kd.R_drew)); exact HO_8.out))) (Kd.R_lt (by (with_reducible repeat (first | apply Kd.R_alloc | apply Kd.R_drewN | apply Kd.R_drew)); exact HO_12.out))) (below_size (by repeat (first | (with_reducible first | exact HB.out | apply below_alloc | apply pw_below_drewN | apply below_drew1) | exact HB.out)))); have n4_ := Aside0.mk (below_step (by repeat (first | (with_reducible first | exact HB.out | apply below_alloc | apply pw_below_drewN | apply below_drew1) | exact HB.out)) hb); clear HO_6; clear HO_8; clear HO_12; clear HB; have HO_6 := n0_; have HO_8 := n1_; have HO_12 := n2_; have HO251 := n3_; have HB := n4_; clear n0_ n1_ n2_ n3_ n4_; clear hb ho38; obtain ⟨Ao39, co39, eo39⟩ := Kd.R_slice HO_12.out; subst eo39; obtain ⟨Ao40, co40, eo40⟩ := Kd.R_slice HO251.out; subst eo40) | (go_at_call 10; (with_reducible refine (quaerelaw0_SameWords.calls kj19 _ _ t241 _ _ y249 t252 _ ?side1 ?side2 ?side3 ?side4 A36.out).mono ?_); (case side1 => repeat (first | exact (Kd.R_reads' HO_12.out).2.2 | (with_reducible refine Kd.C_alloc ?_ _) | (with_reducible refine Kd.C_drewN ?_ _) | (with_reducible refine Kd.C_drew ?_))); (case side2 => exact (Kd.R_reads' HO_12.out).2.1); (case side3 => repeat (first | exact (Kd.R_reads' HO251.out).2.2 | (with_reducible refine Kd.C_alloc ?_ _) | (with_reducible refine Kd.C_drewN ?_ _) | (with_reducible refine Kd.C_drew ?_))); (case side4 => exact (Kd.R_reads' HO251.out).2.1); rintro e w' ⟨rfl, ⟨nd, rfl⟩⟩))
                          go_ret
                          exact ⟨by first | rfl | (simp [errW_none, errW_some] <;> rfl) | (simp [*, errW_none, errW_some] <;> rfl), by repeat (first | (with_reducible first | exact HB.out | apply below_alloc | apply pw_below_drewN | apply below_drew1) | exact HB.out)⟩
                        · rw [if_neg c35] at H
                          exact absurd H (by simp)
                      · rw [if_neg c34] at H
                        have c34b0 : decide (23 < (wrap64 (Int.tmod (IntKind.u64.wrap (a0)) 100000))) = false := decide_eq_false c34
                        clear c34
                        by_cases c41 : 1 + x4_1.size ≤ 9223372036854775807
                        · rw [if_pos c41] at H
                          have c41b0 := eq_true c41
                          have c41b1 : decide (1 + x4_1.size ≤ 9223372036854775807) = true := decide_eq_true c41
                          try have c41b2 : (9223372036854775807 < 1 + x4_1.size) = False := eq_false (Nat.not_lt.2 c41)
                          (try (have c41b3 := c41b2; simp only [ByteArray.size_append] at c41b3))
                          obtain ⟨y253, hy253⟩ : ∃ y_ : List (S33), y_ = (([(⟨1, (⟨#[88]⟩ : ByteArray) ++ x4_1⟩ : S33)] : List (S33))) := ⟨_, rfl⟩
                          replace H : ((quaerelaw0_SameWords.f kj19 t233 y253).bind fun t256 => (if t256 = true then ((quaerelaw0_SameWords.f kj19 t241 (([(⟨0, (⟨#[97]⟩ : ByteArray) ++ x4_1⟩ : S33)] : List (S33)))).bind fun t260 => (some t260)) else (some false))) = some r := by first | (rw [hy253]; with_reducible exact H) | (have H2_ := (Option.bind_some _ _).symm.trans H; rw [hy253]; with_reducible exact H2_) | (have H2_ := (Option.bind_some _ _).symm.trans H; with_reducible exact H2_) | with_reducible exact H | (rw [hy253]; exact H) | exact H
                          have Ny253 := Aside0.mk hy253
                          clear hy253
                          replace H := Option.bind_eq_some_iff.mp H
                          obtain ⟨t256, A420, H⟩ := H
                          replace H : (if t256 = true then ((quaerelaw0_SameWords.f kj19 t241 (([(⟨0, (⟨#[97]⟩ : ByteArray) ++ x4_1⟩ : S33)] : List (S33)))).bind fun t260 => (some t260)) else (some false)) = some r := H
                          have A42 := Aside0.mk A420
                          clear A420
                          by_cases c43 : t256 = true
                          · subst c43
                            have H1 : ((quaerelaw0_SameWords.f kj19 t241 (([(⟨0, (⟨#[97]⟩ : ByteArray) ++ x4_1⟩ : S33)] : List (S33)))).bind fun t260 => (some t260)) = some r := by rw [if_pos rfl] at H; exact H
                            clear H
                            have H := H1
                            clear H1
                            obtain ⟨y257, hy257⟩ : ∃ y_ : List (S33), y_ = (([(⟨0, (⟨#[97]⟩ : ByteArray) ++ x4_1⟩ : S33)] : List (S33))) := ⟨_, rfl⟩
                            replace H : ((quaerelaw0_SameWords.f kj19 t241 y257).bind fun t260 => (some t260)) = some r := by first | (rw [hy257]; with_reducible exact H) | (have H2_ := (Option.bind_some _ _).symm.trans H; rw [hy257]; with_reducible exact H2_) | (have H2_ := (Option.bind_some _ _).symm.trans H; with_reducible exact H2_) | with_reducible exact H | (rw [hy257]; exact H) | exact H
                            have Ny257 := Aside0.mk hy257
                            clear hy257
                            replace H := Option.bind_eq_some_iff.mp H
                            obtain ⟨t260, A440, H⟩ := H
                            replace H : (some t260) = some r := H
                            have A44 := Aside0.mk A440
                            clear A440
                            obtain rfl := Option.some.inj H
                            go_wp2_with (first | ((with_reducible refine gate_dst (N := 101) rfl ?_); (try (refine gate_guard (by rfl) ?_; dsimp only)); refine Kd.R_lit k33 _ 33 ?hg (N := 101) ?hd (xs := ([(⟨1, (⟨#[88]⟩ : ByteArray) ++ x4_1⟩ : S33)] : List (S33))) (inner := [.int .i64 1, .string ((⟨#[88]⟩ : ByteArray) ++ x4_1)]) (ok := fun _ => True) (okp := fun _ => True) ?hr ?hp (fun _ hk => hk) trivial (Below.refl _ _) (Nat.le_refl _) (by simp) ?_; (case hd => rfl); (case hg => rfl); (case hr => first | (go_simp; done) | (go_simp; rfl)); (case hp => exact (Reps.c2 (show Kd.M k33 _ _ _ (⟨1, (⟨#[88]⟩ : ByteArray) ++ x4_1⟩ : S33) [.int .i64 1, .string ((⟨#[88]⟩ : ByteArray) ++ x4_1)] from (k33_mkM _ _ _ (⟨1, (⟨#[88]⟩ : ByteArray) ++ x4_1⟩ : S33) )) (Reps.none _ _))); intro v254 w45 ho46 hb hg_ hnew_; clear hg_ hnew_; (first | rw [← Ny253.out] at ho46 | (simp only [Int.reduceToNat] at ho46; rw [← Ny253.out] at ho46)); have n0_ := Aside0.mk (Kd.R_elder' (by (with_reducible repeat (first | apply Kd.R_alloc | apply Kd.R_drewN | apply Kd.R_drew)); exact HO_6.out) (Kd.R_base ho46) hb); have n1_ := Aside0.mk (Kd.R_elder' (by (with_reducible repeat (first | apply Kd.R_alloc | apply Kd.R_drewN | apply Kd.R_drew)); exact HO_8.out) (Kd.R_base ho46) hb); have n2_ := Aside0.mk (Kd.R_elder' (by (with_reducible repeat (first | apply Kd.R_alloc | apply Kd.R_drewN | apply Kd.R_drew)); exact HO_12.out) (Kd.R_base ho46) hb); have n3_ := Aside0.mk (Kd.R_lower (Kd.R_new' (Kd.R_new' (Kd.R_new' ho46 (Kd.R_lt (by (with_reducible repeat (first | apply Kd.R_alloc | apply Kd.R_drewN | apply Kd.R_drew)); exact HO_6.out))) (Kd.R_lt (by (with_reducible repeat (first | apply Kd.R_alloc | apply Kd.R_drewN | apply Kd.R_drew)); exact HO_8.out))) (Kd.R_lt (by (with_reducible repeat (first | apply Kd.R_alloc | apply Kd.R_drewN | apply Kd.R_drew)); exact HO_12.out))) (below_size (by repeat (first | (with_reducible first | exact HB.out | apply below_alloc | apply pw_below_drewN | apply below_drew1) | exact HB.out)))); have n4_ := Aside0.mk (below_step (by repeat (first | (with_reducible first | exact HB.out | apply below_alloc | apply pw_below_drewN | apply below_drew1) | exact HB.out)) hb); clear HO_6; clear HO_8; clear HO_12; clear HB; have HO_6 := n0_; have HO_8 := n1_; have HO_12 := n2_; have HO255 := n3_; have HB := n4_; clear n0_ n1_ n2_ n3_ n4_; clear hb ho46; obtain ⟨Ao47, co47, eo47⟩ := Kd.R_slice HO_8.out; subst eo47; obtain ⟨Ao48, co48, eo48⟩ := Kd.R_slice HO255.out; subst eo48) | (go_at_call 10; (with_reducible refine (quaerelaw0_SameWords.calls kj19 _ _ t233 _ _ y253 true _ ?side1 ?side2 ?side3 ?side4 A42.out).mono ?_); (case side1 => repeat (first | exact (Kd.R_reads' HO_8.out).2.2 | (with_reducible refine Kd.C_alloc ?_ _) | (with_reducible refine Kd.C_drewN ?_ _) | (with_reducible refine Kd.C_drew ?_))); (case side2 => exact (Kd.R_reads' HO_8.out).2.1); (case side3 => repeat (first | exact (Kd.R_reads' HO255.out).2.2 | (with_reducible refine Kd.C_alloc ?_ _) | (with_reducible refine Kd.C_drewN ?_ _) | (with_reducible refine Kd.C_drew ?_))); (case side4 => exact (Kd.R_reads' HO255.out).2.1); rintro e w' ⟨rfl, ⟨nd, rfl⟩⟩) | ((with_reducible refine gate_dst (N := 110) rfl ?_); (try (refine gate_guard (by rfl) ?_; dsimp only)); refine Kd.R_lit k33 _ 33 ?hg (N := 110) ?hd (xs := ([(⟨0, (⟨#[97]⟩ : ByteArray) ++ x4_1⟩ : S33)] : List (S33))) (inner := [.int .i64 0, .string ((⟨#[97]⟩ : ByteArray) ++ x4_1)]) (ok := fun _ => True) (okp := fun _ => True) ?hr ?hp (fun _ hk => hk) trivial (Below.refl _ _) (Nat.le_refl _) (by simp) ?_; (case hd => rfl); (case hg => rfl); (case hr => first | (go_simp; done) | (go_simp; rfl)); (case hp => exact (Reps.c2 (show Kd.M k33 _ _ _ (⟨0, (⟨#[97]⟩ : ByteArray) ++ x4_1⟩ : S33) [.int .i64 0, .string ((⟨#[97]⟩ : ByteArray) ++ x4_1)] from (k33_mkM _ _ _ (⟨0, (⟨#[97]⟩ : ByteArray) ++ x4_1⟩ : S33) )) (Reps.none _ _))); intro v258 w49 ho50 hb hg_ hnew_; clear hg_ hnew_; (first | rw [← Ny257.out] at ho50 | (simp only [Int.reduceToNat] at ho50; rw [← Ny257.out] at ho50)); have n0_ := Aside0.mk (Kd.R_elder' (by (with_reducible repeat (first | apply Kd.R_alloc | apply Kd.R_drewN | apply Kd.R_drew)); exact HO_6.out) (Kd.R_base ho50) hb); have n1_ := Aside0.mk (Kd.R_elder' (by (with_reducible repeat (first | apply Kd.R_alloc | apply Kd.R_drewN | apply Kd.R_drew)); exact HO_8.out) (Kd.R_base ho50) hb); have n2_ := Aside0.mk (Kd.R_elder' (by (with_reducible repeat (first | apply Kd.R_alloc | apply Kd.R_drewN | apply Kd.R_drew)); exact HO_12.out) (Kd.R_base ho50) hb); have n3_ := Aside0.mk (Kd.R_elder' (by (with_reducible repeat (first | apply Kd.R_alloc | apply Kd.R_drewN | apply Kd.R_drew)); exact HO255.out) (Kd.R_base ho50) hb); have n4_ := Aside0.mk (Kd.R_lower (Kd.R_new' (Kd.R_new' (Kd.R_new' (Kd.R_new' ho50 (Kd.R_lt (by (with_reducible repeat (first | apply Kd.R_alloc | apply Kd.R_drewN | apply Kd.R_drew)); exact HO_6.out))) (Kd.R_lt (by (with_reducible repeat (first | apply Kd.R_alloc | apply Kd.R_drewN | apply Kd.R_drew)); exact HO_8.out))) (Kd.R_lt (by (with_reducible repeat (first | apply Kd.R_alloc | apply Kd.R_drewN | apply Kd.R_drew)); exact HO_12.out))) (Kd.R_lt (by (with_reducible repeat (first | apply Kd.R_alloc | apply Kd.R_drewN | apply Kd.R_drew)); exact HO255.out))) (below_size (by repeat (first | (with_reducible first | exact HB.out | apply below_alloc | apply pw_below_drewN | apply below_drew1) | exact HB.out)))); have n5_ := Aside0.mk (below_step (by repeat (first | (with_reducible first | exact HB.out | apply below_alloc | apply pw_below_drewN | apply below_drew1) | exact HB.out)) hb); clear HO_6; clear HO_8; clear HO_12; clear HO255; clear HB; have HO_6 := n0_; have HO_8 := n1_; have HO_12 := n2_; have HO255 := n3_; have HO259 := n4_; have HB := n5_; clear n0_ n1_ n2_ n3_ n4_ n5_; clear hb ho50; obtain ⟨Ao51, co51, eo51⟩ := Kd.R_slice HO_12.out; subst eo51; obtain ⟨Ao52, co52, eo52⟩ := Kd.R_slice HO259.out; subst eo52) | (go_at_call 10; (with_reducible refine (quaerelaw0_SameWords.calls kj19 _ _ t241 _ _ y257 t260 _ ?side1 ?side2 ?side3 ?side4 A44.out).mono ?_); (case side1 => repeat (first | exact (Kd.R_reads' HO_12.out).2.2 | (with_reducible refine Kd.C_alloc ?_ _) | (with_reducible refine Kd.C_drewN ?_ _) | (with_reducible refine Kd.C_drew ?_))); (case side2 => exact (Kd.R_reads' HO_12.out).2.1); (case side3 => repeat (first | exact (Kd.R_reads' HO259.out).2.2 | (with_reducible refine Kd.C_alloc ?_ _) | (with_reducible refine Kd.C_drewN ?_ _) | (with_reducible refine Kd.C_drew ?_))); (case side4 => exact (Kd.R_reads' HO259.out).2.1); rintro e w' ⟨rfl, ⟨nd, rfl⟩⟩))
                            go_ret
                            exact ⟨by first | rfl | (simp [errW_none, errW_some] <;> rfl) | (simp [*, errW_none, errW_some] <;> rfl), by repeat (first | (with_reducible first | exact HB.out | apply below_alloc | apply pw_below_drewN | apply below_drew1) | exact HB.out)⟩
                          · replace c43 := Bool.eq_false_iff.mpr c43
                            subst c43
                            have H1 : (some false) = some r := by rw [if_neg (show ¬ (false = true) by decide)] at H; exact H
                            clear H
                            have H := H1
                            clear H1
                            obtain rfl := Option.some.inj H
                            go_wp2_with (first | ((with_reducible refine gate_dst (N := 101) rfl ?_); (try (refine gate_guard (by rfl) ?_; dsimp only)); refine Kd.R_lit k33 _ 33 ?hg (N := 101) ?hd (xs := ([(⟨1, (⟨#[88]⟩ : ByteArray) ++ x4_1⟩ : S33)] : List (S33))) (inner := [.int .i64 1, .string ((⟨#[88]⟩ : ByteArray) ++ x4_1)]) (ok := fun _ => True) (okp := fun _ => True) ?hr ?hp (fun _ hk => hk) trivial (Below.refl _ _) (Nat.le_refl _) (by simp) ?_; (case hd => rfl); (case hg => rfl); (case hr => first | (go_simp; done) | (go_simp; rfl)); (case hp => exact (Reps.c2 (show Kd.M k33 _ _ _ (⟨1, (⟨#[88]⟩ : ByteArray) ++ x4_1⟩ : S33) [.int .i64 1, .string ((⟨#[88]⟩ : ByteArray) ++ x4_1)] from (k33_mkM _ _ _ (⟨1, (⟨#[88]⟩ : ByteArray) ++ x4_1⟩ : S33) )) (Reps.none _ _))); intro v254 w53 ho54 hb hg_ hnew_; clear hg_ hnew_; (first | rw [← Ny253.out] at ho54 | (simp only [Int.reduceToNat] at ho54; rw [← Ny253.out] at ho54)); have n0_ := Aside0.mk (Kd.R_elder' (by (with_reducible repeat (first | apply Kd.R_alloc | apply Kd.R_drewN | apply Kd.R_drew)); exact HO_6.out) (Kd.R_base ho54) hb); have n1_ := Aside0.mk (Kd.R_elder' (by (with_reducible repeat (first | apply Kd.R_alloc | apply Kd.R_drewN | apply Kd.R_drew)); exact HO_8.out) (Kd.R_base ho54) hb); have n2_ := Aside0.mk (Kd.R_elder' (by (with_reducible repeat (first | apply Kd.R_alloc | apply Kd.R_drewN | apply Kd.R_drew)); exact HO_12.out) (Kd.R_base ho54) hb); have n3_ := Aside0.mk (Kd.R_lower (Kd.R_new' (Kd.R_new' (Kd.R_new' ho54 (Kd.R_lt (by (with_reducible repeat (first | apply Kd.R_alloc | apply Kd.R_drewN | apply Kd.R_drew)); exact HO_6.out))) (Kd.R_lt (by (with_reducible repeat (first | apply Kd.R_alloc | apply Kd.R_drewN | apply Kd.R_drew)); exact HO_8.out))) (Kd.R_lt (by (with_reducible repeat (first | apply Kd.R_alloc | apply Kd.R_drewN | apply Kd.R_drew)); exact HO_12.out))) (below_size (by repeat (first | (with_reducible first | exact HB.out | apply below_alloc | apply pw_below_drewN | apply below_drew1) | exact HB.out)))); have n4_ := Aside0.mk (below_step (by repeat (first | (with_reducible first | exact HB.out | apply below_alloc | apply pw_below_drewN | apply below_drew1) | exact HB.out)) hb); clear HO_6; clear HO_8; clear HO_12; clear HB; have HO_6 := n0_; have HO_8 := n1_; have HO_12 := n2_; have HO255 := n3_; have HB := n4_; clear n0_ n1_ n2_ n3_ n4_; clear hb ho54; obtain ⟨Ao55, co55, eo55⟩ := Kd.R_slice HO_8.out; subst eo55; obtain ⟨Ao56, co56, eo56⟩ := Kd.R_slice HO255.out; subst eo56) | (go_at_call 10; (with_reducible refine (quaerelaw0_SameWords.calls kj19 _ _ t233 _ _ y253 false _ ?side1 ?side2 ?side3 ?side4 A42.out).mono ?_); (case side1 => repeat (first | exact (Kd.R_reads' HO_8.out).2.2 | (with_reducible refine Kd.C_alloc ?_ _) | (with_reducible refine Kd.C_drewN ?_ _) | (with_reducible refine Kd.C_drew ?_))); (case side2 => exact (Kd.R_reads' HO_8.out).2.1); (case side3 => repeat (first | exact (Kd.R_reads' HO255.out).2.2 | (with_reducible refine Kd.C_alloc ?_ _) | (with_reducible refine Kd.C_drewN ?_ _) | (with_reducible refine Kd.C_drew ?_))); (case side4 => exact (Kd.R_reads' HO255.out).2.1); rintro e w' ⟨rfl, ⟨nd, rfl⟩⟩))
                            go_ret
                            exact ⟨by first | rfl | (simp [errW_none, errW_some] <;> rfl) | (simp [*, errW_none, errW_some] <;> rfl), by repeat (first | (with_reducible first | exact HB.out | apply below_alloc | apply pw_below_drewN | apply below_drew1) | exact HB.out)⟩
                        · rw [if_neg c41] at H
                          exact absurd H (by simp)
                    · rw [if_neg c33] at H
                      have c33b0 : decide (10000 ≤ (wrap64 (Int.tmod (IntKind.u64.wrap (a0)) 100000))) = false := decide_eq_false c33
                      clear c33
                      obtain ⟨y261, hy261⟩ : ∃ y_ : List (S33), y_ = (([(⟨2, x4_1⟩ : S33)] : List (S33))) := ⟨_, rfl⟩
                      replace H : ((quaerelaw0_SameWords.f kj19 t229 y261).bind fun t264 => (if t264 = true then (if (wrap64 (Int.tmod (IntKind.u64.wrap (a0)) 100000)) > 23 then (if 1 + x4_1.size ≤ 9223372036854775807 then ((quaerelaw0_SameWords.f kj19 t241 (([(⟨0, (⟨#[97]⟩ : ByteArray) ++ x4_1⟩ : S33)] : List (S33)))).bind fun t268 => (some t268)) else (none)) else (if 1 + x4_1.size ≤ 9223372036854775807 then ((quaerelaw0_SameWords.f kj19 t233 (([(⟨1, (⟨#[88]⟩ : ByteArray) ++ x4_1⟩ : S33)] : List (S33)))).bind fun t272 => (if t272 = true then ((quaerelaw0_SameWords.f kj19 t241 (([(⟨0, (⟨#[97]⟩ : ByteArray) ++ x4_1⟩ : S33)] : List (S33)))).bind fun t276 => (some t276)) else (some false))) else (none))) else (some false))) = some r := by first | (rw [hy261]; with_reducible exact H) | (have H2_ := (Option.bind_some _ _).symm.trans H; rw [hy261]; with_reducible exact H2_) | (have H2_ := (Option.bind_some _ _).symm.trans H; with_reducible exact H2_) | with_reducible exact H | (rw [hy261]; exact H) | exact H
                      have Ny261 := Aside0.mk hy261
                      clear hy261
                      replace H := Option.bind_eq_some_iff.mp H
                      obtain ⟨t264, A570, H⟩ := H
                      replace H : (if t264 = true then (if (wrap64 (Int.tmod (IntKind.u64.wrap (a0)) 100000)) > 23 then (if 1 + x4_1.size ≤ 9223372036854775807 then ((quaerelaw0_SameWords.f kj19 t241 (([(⟨0, (⟨#[97]⟩ : ByteArray) ++ x4_1⟩ : S33)] : List (S33)))).bind fun t268 => (some t268)) else (none)) else (if 1 + x4_1.size ≤ 9223372036854775807 then ((quaerelaw0_SameWords.f kj19 t233 (([(⟨1, (⟨#[88]⟩ : ByteArray) ++ x4_1⟩ : S33)] : List (S33)))).bind fun t272 => (if t272 = true then ((quaerelaw0_SameWords.f kj19 t241 (([(⟨0, (⟨#[97]⟩ : ByteArray) ++ x4_1⟩ : S33)] : List (S33)))).bind fun t276 => (some t276)) else (some false))) else (none))) else (some false)) = some r := H
                      have A57 := Aside0.mk A570
                      clear A570
                      by_cases c58 : t264 = true
                      · subst c58
                        have H1 : (if (wrap64 (Int.tmod (IntKind.u64.wrap (a0)) 100000)) > 23 then (if 1 + x4_1.size ≤ 9223372036854775807 then ((quaerelaw0_SameWords.f kj19 t241 (([(⟨0, (⟨#[97]⟩ : ByteArray) ++ x4_1⟩ : S33)] : List (S33)))).bind fun t268 => (some t268)) else (none)) else (if 1 + x4_1.size ≤ 9223372036854775807 then ((quaerelaw0_SameWords.f kj19 t233 (([(⟨1, (⟨#[88]⟩ : ByteArray) ++ x4_1⟩ : S33)] : List (S33)))).bind fun t272 => (if t272 = true then ((quaerelaw0_SameWords.f kj19 t241 (([(⟨0, (⟨#[97]⟩ : ByteArray) ++ x4_1⟩ : S33)] : List (S33)))).bind fun t276 => (some t276)) else (some false))) else (none))) = some r := by rw [if_pos rfl] at H; exact H
                        clear H
                        have H := H1
                        clear H1
                        by_cases c59 : (wrap64 (Int.tmod (IntKind.u64.wrap (a0)) 100000)) > 23
                        · rw [if_pos c59] at H
                          have c59b0 : decide (23 < (wrap64 (Int.tmod (IntKind.u64.wrap (a0)) 100000))) = true := decide_eq_true c59
                          clear c59
                          by_cases c60 : 1 + x4_1.size ≤ 9223372036854775807
                          · rw [if_pos c60] at H
                            have c60b0 := eq_true c60
                            have c60b1 : decide (1 + x4_1.size ≤ 9223372036854775807) = true := decide_eq_true c60
                            try have c60b2 : (9223372036854775807 < 1 + x4_1.size) = False := eq_false (Nat.not_lt.2 c60)
                            (try (have c60b3 := c60b2; simp only [ByteArray.size_append] at c60b3))
                            obtain ⟨y265, hy265⟩ : ∃ y_ : List (S33), y_ = (([(⟨0, (⟨#[97]⟩ : ByteArray) ++ x4_1⟩ : S33)] : List (S33))) := ⟨_, rfl⟩
                            replace H : ((quaerelaw0_SameWords.f kj19 t241 y265).bind fun t268 => (some t268)) = some r := by first | (rw [hy265]; with_reducible exact H) | (have H2_ := (Option.bind_some _ _).symm.trans H; rw [hy265]; with_reducible exact H2_) | (have H2_ := (Option.bind_some _ _).symm.trans H; with_reducible exact H2_) | with_reducible exact H | (rw [hy265]; exact H) | exact H
                            have Ny265 := Aside0.mk hy265
                            clear hy265
                            replace H := Option.bind_eq_some_iff.mp H
                            obtain ⟨t268, A610, H⟩ := H
                            replace H : (some t268) = some r := H
                            have A61 := Aside0.mk A610
                            clear A610
                            obtain rfl := Option.some.inj H
                            go_wp2_with (first | ((with_reducible refine gate_dst (N := 90) rfl ?_); (try (refine gate_guard (by rfl) ?_; dsimp only)); refine Kd.R_lit k33 _ 33 ?hg (N := 90) ?hd (xs := ([(⟨2, x4_1⟩ : S33)] : List (S33))) (inner := [.int .i64 2, .string x4_1]) (ok := fun _ => True) (okp := fun _ => True) ?hr ?hp (fun _ hk => hk) trivial (Below.refl _ _) (Nat.le_refl _) (by simp) ?_; (case hd => rfl); (case hg => rfl); (case hr => first | (go_simp; done) | (go_simp; rfl)); (case hp => exact (Reps.c2 (show Kd.M k33 _ _ _ (⟨2, x4_1⟩ : S33) [.int .i64 2, .string x4_1] from (k33_mkM _ _ _ (⟨2, x4_1⟩ : S33) )) (Reps.none _ _))); intro v262 w62 ho63 hb hg_ hnew_; clear hg_ hnew_; (first | rw [← Ny261.out] at ho63 | (simp only [Int.reduceToNat] at ho63; rw [← Ny261.out] at ho63)); have n0_ := Aside0.mk (Kd.R_elder' (by (with_reducible repeat (first | apply Kd.R_alloc | apply Kd.R_drewN | apply Kd.R_drew)); exact HO_6.out) (Kd.R_base ho63) hb); have n1_ := Aside0.mk (Kd.R_elder' (by (with_reducible repeat (first | apply Kd.R_alloc | apply Kd.R_drewN | apply Kd.R_drew)); exact HO_8.out) (Kd.R_base ho63) hb); have n2_ := Aside0.mk (Kd.R_elder' (by (with_reducible repeat (first | apply Kd.R_alloc | apply Kd.R_drewN | apply Kd.R_drew)); exact HO_12.out) (Kd.R_base ho63) hb); have n3_ := Aside0.mk (Kd.R_lower (Kd.R_new' (Kd.R_new' (Kd.R_new' ho63 (Kd.R_lt (by (with_reducible repeat (first | apply Kd.R_alloc | apply Kd.R_drewN | apply Kd.R_drew)); exact HO_6.out))) (Kd.R_lt (by (with_reducible repeat (first | apply Kd.R_alloc | apply Kd.R_drewN | apply Kd.R_drew)); exact HO_8.out))) (Kd.R_lt (by (with_reducible repeat (first | apply Kd.R_alloc | apply Kd.R_drewN | apply Kd.R_drew)); exact HO_12.out))) (below_size (by repeat (first | (with_reducible first | exact HB.out | apply below_alloc | apply pw_below_drewN | apply below_drew1) | exact HB.out)))); have n4_ := Aside0.mk (below_step (by repeat (first | (with_reducible first | exact HB.out | apply below_alloc | apply pw_below_drewN | apply below_drew1) | exact HB.out)) hb); clear HO_6; clear HO_8; clear HO_12; clear HB; have HO_6 := n0_; have HO_8 := n1_; have HO_12 := n2_; have HO263 := n3_; have HB := n4_; clear n0_ n1_ n2_ n3_ n4_; clear hb ho63; obtain ⟨Ao64, co64, eo64⟩ := Kd.R_slice HO_6.out; subst eo64; obtain ⟨Ao65, co65, eo65⟩ := Kd.R_slice HO263.out; subst eo65) | (go_at_call 10; (with_reducible refine (quaerelaw0_SameWords.calls kj19 _ _ t229 _ _ y261 true _ ?side1 ?side2 ?side3 ?side4 A57.out).mono ?_); (case side1 => repeat (first | exact (Kd.R_reads' HO_6.out).2.2 | (with_reducible refine Kd.C_alloc ?_ _) | (with_reducible refine Kd.C_drewN ?_ _) | (with_reducible refine Kd.C_drew ?_))); (case side2 => exact (Kd.R_reads' HO_6.out).2.1); (case side3 => repeat (first | exact (Kd.R_reads' HO263.out).2.2 | (with_reducible refine Kd.C_alloc ?_ _) | (with_reducible refine Kd.C_drewN ?_ _) | (with_reducible refine Kd.C_drew ?_))); (case side4 => exact (Kd.R_reads' HO263.out).2.1); rintro e w' ⟨rfl, ⟨nd, rfl⟩⟩) | ((with_reducible refine gate_dst (N := 110) rfl ?_); (try (refine gate_guard (by rfl) ?_; dsimp only)); refine Kd.R_lit k33 _ 33 ?hg (N := 110) ?hd (xs := ([(⟨0, (⟨#[97]⟩ : ByteArray) ++ x4_1⟩ : S33)] : List (S33))) (inner := [.int .i64 0, .string ((⟨#[97]⟩ : ByteArray) ++ x4_1)]) (ok := fun _ => True) (okp := fun _ => True) ?hr ?hp (fun _ hk => hk) trivial (Below.refl _ _) (Nat.le_refl _) (by simp) ?_; (case hd => rfl); (case hg => rfl); (case hr => first | (go_simp; done) | (go_simp; rfl)); (case hp => exact (Reps.c2 (show Kd.M k33 _ _ _ (⟨0, (⟨#[97]⟩ : ByteArray) ++ x4_1⟩ : S33) [.int .i64 0, .string ((⟨#[97]⟩ : ByteArray) ++ x4_1)] from (k33_mkM _ _ _ (⟨0, (⟨#[97]⟩ : ByteArray) ++ x4_1⟩ : S33) )) (Reps.none _ _))); intro v266 w66 ho67 hb hg_ hnew_; clear hg_ hnew_; (first | rw [← Ny265.out] at ho67 | (simp only [Int.reduceToNat] at ho67; rw [← Ny265.out] at ho67)); have n0_ := Aside0.mk (Kd.R_elder' (by (with_reducible repeat (first | apply Kd.R_alloc | apply Kd.R_drewN | apply Kd.R_drew)); exact HO_6.out) (Kd.R_base ho67) hb); have n1_ := Aside0.mk (Kd.R_elder' (by (with_reducible repeat (first | apply Kd.R_alloc | apply Kd.R_drewN | apply Kd.R_drew)); exact HO_8.out) (Kd.R_base ho67) hb); have n2_ := Aside0.mk (Kd.R_elder' (by (with_reducible repeat (first | apply Kd.R_alloc | apply Kd.R_drewN | apply Kd.R_drew)); exact HO_12.out) (Kd.R_base ho67) hb); have n3_ := Aside0.mk (Kd.R_elder' (by (with_reducible repeat (first | apply Kd.R_alloc | apply Kd.R_drewN | apply Kd.R_drew)); exact HO263.out) (Kd.R_base ho67) hb); have n4_ := Aside0.mk (Kd.R_lower (Kd.R_new' (Kd.R_new' (Kd.R_new' (Kd.R_new' ho67 (Kd.R_lt (by (with_reducible repeat (first | apply Kd.R_alloc | apply Kd.R_drewN | apply Kd.R_drew)); exact HO_6.out))) (Kd.R_lt (by (with_reducible repeat (first | apply Kd.R_alloc | apply Kd.R_drewN | apply Kd.R_drew)); exact HO_8.out))) (Kd.R_lt (by (with_reducible repeat (first | apply Kd.R_alloc | apply Kd.R_drewN | apply Kd.R_drew)); exact HO_12.out))) (Kd.R_lt (by (with_reducible repeat (first | apply Kd.R_alloc | apply Kd.R_drewN | apply Kd.R_drew)); exact HO263.out))) (below_size (by repeat (first | (with_reducible first | exact HB.out | apply below_alloc | apply pw_below_drewN | apply below_drew1) | exact HB.out)))); have n5_ := Aside0.mk (below_step (by repeat (first | (with_reducible first | exact HB.out | apply below_alloc | apply pw_below_drewN | apply below_drew1) | exact HB.out)) hb); clear HO_6; clear HO_8; clear HO_12; clear HO263; clear HB; have HO_6 := n0_; have HO_8 := n1_; have HO_12 := n2_; have HO263 := n3_; have HO267 := n4_; have HB := n5_; clear n0_ n1_ n2_ n3_ n4_ n5_; clear hb ho67; obtain ⟨Ao68, co68, eo68⟩ := Kd.R_slice HO_12.out; subst eo68; obtain ⟨Ao69, co69, eo69⟩ := Kd.R_slice HO267.out; subst eo69) | (go_at_call 10; (with_reducible refine (quaerelaw0_SameWords.calls kj19 _ _ t241 _ _ y265 t268 _ ?side1 ?side2 ?side3 ?side4 A61.out).mono ?_); (case side1 => repeat (first | exact (Kd.R_reads' HO_12.out).2.2 | (with_reducible refine Kd.C_alloc ?_ _) | (with_reducible refine Kd.C_drewN ?_ _) | (with_reducible refine Kd.C_drew ?_))); (case side2 => exact (Kd.R_reads' HO_12.out).2.1); (case side3 => repeat (first | exact (Kd.R_reads' HO267.out).2.2 | (with_reducible refine Kd.C_alloc ?_ _) | (with_reducible refine Kd.C_drewN ?_ _) | (with_reducible refine Kd.C_drew ?_))); (case side4 => exact (Kd.R_reads' HO267.out).2.1); rintro e w' ⟨rfl, ⟨nd, rfl⟩⟩))
                            go_ret
                            exact ⟨by first | rfl | (simp [errW_none, errW_some] <;> rfl) | (simp [*, errW_none, errW_some] <;> rfl), by repeat (first | (with_reducible first | exact HB.out | apply below_alloc | apply pw_below_drewN | apply below_drew1) | exact HB.out)⟩
                          · rw [if_neg c60] at H
                            exact absurd H (by simp)
                        · rw [if_neg c59] at H
                          have c59b0 : decide (23 < (wrap64 (Int.tmod (IntKind.u64.wrap (a0)) 100000))) = false := decide_eq_false c59
                          clear c59
                          by_cases c70 : 1 + x4_1.size ≤ 9223372036854775807
                          · rw [if_pos c70] at H
                            have c70b0 := eq_true c70
                            have c70b1 : decide (1 + x4_1.size ≤ 9223372036854775807) = true := decide_eq_true c70
                            try have c70b2 : (9223372036854775807 < 1 + x4_1.size) = False := eq_false (Nat.not_lt.2 c70)
                            (try (have c70b3 := c70b2; simp only [ByteArray.size_append] at c70b3))
                            obtain ⟨y269, hy269⟩ : ∃ y_ : List (S33), y_ = (([(⟨1, (⟨#[88]⟩ : ByteArray) ++ x4_1⟩ : S33)] : List (S33))) := ⟨_, rfl⟩
                            replace H : ((quaerelaw0_SameWords.f kj19 t233 y269).bind fun t272 => (if t272 = true then ((quaerelaw0_SameWords.f kj19 t241 (([(⟨0, (⟨#[97]⟩ : ByteArray) ++ x4_1⟩ : S33)] : List (S33)))).bind fun t276 => (some t276)) else (some false))) = some r := by first | (rw [hy269]; with_reducible exact H) | (have H2_ := (Option.bind_some _ _).symm.trans H; rw [hy269]; with_reducible exact H2_) | (have H2_ := (Option.bind_some _ _).symm.trans H; with_reducible exact H2_) | with_reducible exact H | (rw [hy269]; exact H) | exact H
                            have Ny269 := Aside0.mk hy269
                            clear hy269
                            replace H := Option.bind_eq_some_iff.mp H
                            obtain ⟨t272, A710, H⟩ := H
                            replace H : (if t272 = true then ((quaerelaw0_SameWords.f kj19 t241 (([(⟨0, (⟨#[97]⟩ : ByteArray) ++ x4_1⟩ : S33)] : List (S33)))).bind fun t276 => (some t276)) else (some false)) = some r := H
                            have A71 := Aside0.mk A710
                            clear A710
                            by_cases c72 : t272 = true
                            · subst c72
                              have H1 : ((quaerelaw0_SameWords.f kj19 t241 (([(⟨0, (⟨#[97]⟩ : ByteArray) ++ x4_1⟩ : S33)] : List (S33)))).bind fun t276 => (some t276)) = some r := by rw [if_pos rfl] at H; exact H
                              clear H
                              have H := H1
                              clear H1
                              obtain ⟨y273, hy273⟩ : ∃ y_ : List (S33), y_ = (([(⟨0, (⟨#[97]⟩ : ByteArray) ++ x4_1⟩ : S33)] : List (S33))) := ⟨_, rfl⟩
                              replace H : ((quaerelaw0_SameWords.f kj19 t241 y273).bind fun t276 => (some t276)) = some r := by first | (rw [hy273]; with_reducible exact H) | (have H2_ := (Option.bind_some _ _).symm.trans H; rw [hy273]; with_reducible exact H2_) | (have H2_ := (Option.bind_some _ _).symm.trans H; with_reducible exact H2_) | with_reducible exact H | (rw [hy273]; exact H) | exact H
                              have Ny273 := Aside0.mk hy273
                              clear hy273
                              replace H := Option.bind_eq_some_iff.mp H
                              obtain ⟨t276, A730, H⟩ := H
                              replace H : (some t276) = some r := H
                              have A73 := Aside0.mk A730
                              clear A730
                              obtain rfl := Option.some.inj H
                              go_wp2_with (first | ((with_reducible refine gate_dst (N := 90) rfl ?_); (try (refine gate_guard (by rfl) ?_; dsimp only)); refine Kd.R_lit k33 _ 33 ?hg (N := 90) ?hd (xs := ([(⟨2, x4_1⟩ : S33)] : List (S33))) (inner := [.int .i64 2, .string x4_1]) (ok := fun _ => True) (okp := fun _ => True) ?hr ?hp (fun _ hk => hk) trivial (Below.refl _ _) (Nat.le_refl _) (by simp) ?_; (case hd => rfl); (case hg => rfl); (case hr => first | (go_simp; done) | (go_simp; rfl)); (case hp => exact (Reps.c2 (show Kd.M k33 _ _ _ (⟨2, x4_1⟩ : S33) [.int .i64 2, .string x4_1] from (k33_mkM _ _ _ (⟨2, x4_1⟩ : S33) )) (Reps.none _ _))); intro v262 w74 ho75 hb hg_ hnew_; clear hg_ hnew_; (first | rw [← Ny261.out] at ho75 | (simp only [Int.reduceToNat] at ho75; rw [← Ny261.out] at ho75)); have n0_ := Aside0.mk (Kd.R_elder' (by (with_reducible repeat (first | apply Kd.R_alloc | apply Kd.R_drewN | apply Kd.R_drew)); exact HO_6.out) (Kd.R_base ho75) hb); have n1_ := Aside0.mk (Kd.R_elder' (by (with_reducible repeat (first | apply Kd.R_alloc | apply Kd.R_drewN | apply Kd.R_drew)); exact HO_8.out) (Kd.R_base ho75) hb); have n2_ := Aside0.mk (Kd.R_elder' (by (with_reducible repeat (first | apply Kd.R_alloc | apply Kd.R_drewN | apply Kd.R_drew)); exact HO_12.out) (Kd.R_base ho75) hb); have n3_ := Aside0.mk (Kd.R_lower (Kd.R_new' (Kd.R_new' (Kd.R_new' ho75 (Kd.R_lt (by (with_reducible repeat (first | apply Kd.R_alloc | apply Kd.R_drewN | apply Kd.R_drew)); exact HO_6.out))) (Kd.R_lt (by (with_reducible repeat (first | apply Kd.R_alloc | apply Kd.R_drewN | apply Kd.R_drew)); exact HO_8.out))) (Kd.R_lt (by (with_reducible repeat (first | apply Kd.R_alloc | apply Kd.R_drewN | apply Kd.R_drew)); exact HO_12.out))) (below_size (by repeat (first | (with_reducible first | exact HB.out | apply below_alloc | apply pw_below_drewN | apply below_drew1) | exact HB.out)))); have n4_ := Aside0.mk (below_step (by repeat (first | (with_reducible first | exact HB.out | apply below_alloc | apply pw_below_drewN | apply below_drew1) | exact HB.out)) hb); clear HO_6; clear HO_8; clear HO_12; clear HB; have HO_6 := n0_; have HO_8 := n1_; have HO_12 := n2_; have HO263 := n3_; have HB := n4_; clear n0_ n1_ n2_ n3_ n4_; clear hb ho75; obtain ⟨Ao76, co76, eo76⟩ := Kd.R_slice HO_6.out; subst eo76; obtain ⟨Ao77, co77, eo77⟩ := Kd.R_slice HO263.out; subst eo77) | (go_at_call 10; (with_reducible refine (quaerelaw0_SameWords.calls kj19 _ _ t229 _ _ y261 true _ ?side1 ?side2 ?side3 ?side4 A57.out).mono ?_); (case side1 => repeat (first | exact (Kd.R_reads' HO_6.out).2.2 | (with_reducible refine Kd.C_alloc ?_ _) | (with_reducible refine Kd.C_drewN ?_ _) | (with_reducible refine Kd.C_drew ?_))); (case side2 => exact (Kd.R_reads' HO_6.out).2.1); (case side3 => repeat (first | exact (Kd.R_reads' HO263.out).2.2 | (with_reducible refine Kd.C_alloc ?_ _) | (with_reducible refine Kd.C_drewN ?_ _) | (with_reducible refine Kd.C_drew ?_))); (case side4 => exact (Kd.R_reads' HO263.out).2.1); rintro e w' ⟨rfl, ⟨nd, rfl⟩⟩) | ((with_reducible refine gate_dst (N := 101) rfl ?_); (try (refine gate_guard (by rfl) ?_; dsimp only)); refine Kd.R_lit k33 _ 33 ?hg (N := 101) ?hd (xs := ([(⟨1, (⟨#[88]⟩ : ByteArray) ++ x4_1⟩ : S33)] : List (S33))) (inner := [.int .i64 1, .string ((⟨#[88]⟩ : ByteArray) ++ x4_1)]) (ok := fun _ => True) (okp := fun _ => True) ?hr ?hp (fun _ hk => hk) trivial (Below.refl _ _) (Nat.le_refl _) (by simp) ?_; (case hd => rfl); (case hg => rfl); (case hr => first | (go_simp; done) | (go_simp; rfl)); (case hp => exact (Reps.c2 (show Kd.M k33 _ _ _ (⟨1, (⟨#[88]⟩ : ByteArray) ++ x4_1⟩ : S33) [.int .i64 1, .string ((⟨#[88]⟩ : ByteArray) ++ x4_1)] from (k33_mkM _ _ _ (⟨1, (⟨#[88]⟩ : ByteArray) ++ x4_1⟩ : S33) )) (Reps.none _ _))); intro v270 w78 ho79 hb hg_ hnew_; clear hg_ hnew_; (first | rw [← Ny269.out] at ho79 | (simp only [Int.reduceToNat] at ho79; rw [← Ny269.out] at ho79)); have n0_ := Aside0.mk (Kd.R_elder' (by (with_reducible repeat (first | apply Kd.R_alloc | apply Kd.R_drewN | apply Kd.R_drew)); exact HO_6.out) (Kd.R_base ho79) hb); have n1_ := Aside0.mk (Kd.R_elder' (by (with_reducible repeat (first | apply Kd.R_alloc | apply Kd.R_drewN | apply Kd.R_drew)); exact HO_8.out) (Kd.R_base ho79) hb); have n2_ := Aside0.mk (Kd.R_elder' (by (with_reducible repeat (first | apply Kd.R_alloc | apply Kd.R_drewN | apply Kd.R_drew)); exact HO_12.out) (Kd.R_base ho79) hb); have n3_ := Aside0.mk (Kd.R_elder' (by (with_reducible repeat (first | apply Kd.R_alloc | apply Kd.R_drewN | apply Kd.R_drew)); exact HO263.out) (Kd.R_base ho79) hb); have n4_ := Aside0.mk (Kd.R_lower (Kd.R_new' (Kd.R_new' (Kd.R_new' (Kd.R_new' ho79 (Kd.R_lt (by (with_reducible repeat (first | apply Kd.R_alloc | apply Kd.R_drewN | apply Kd.R_drew)); exact HO_6.out))) (Kd.R_lt (by (with_reducible repeat (first | apply Kd.R_alloc | apply Kd.R_drewN | apply Kd.R_drew)); exact HO_8.out))) (Kd.R_lt (by (with_reducible repeat (first | apply Kd.R_alloc | apply Kd.R_drewN | apply Kd.R_drew)); exact HO_12.out))) (Kd.R_lt (by (with_reducible repeat (first | apply Kd.R_alloc | apply Kd.R_drewN | apply Kd.R_drew)); exact HO263.out))) (below_size (by repeat (first | (with_reducible first | exact HB.out | apply below_alloc | apply pw_below_drewN | apply below_drew1) | exact HB.out)))); have n5_ := Aside0.mk (below_step (by repeat (first | (with_reducible first | exact HB.out | apply below_alloc | apply pw_below_drewN | apply below_drew1) | exact HB.out)) hb); clear HO_6; clear HO_8; clear HO_12; clear HO263; clear HB; have HO_6 := n0_; have HO_8 := n1_; have HO_12 := n2_; have HO263 := n3_; have HO271 := n4_; have HB := n5_; clear n0_ n1_ n2_ n3_ n4_ n5_; clear hb ho79; obtain ⟨Ao80, co80, eo80⟩ := Kd.R_slice HO_8.out; subst eo80; obtain ⟨Ao81, co81, eo81⟩ := Kd.R_slice HO271.out; subst eo81) | (go_at_call 10; (with_reducible refine (quaerelaw0_SameWords.calls kj19 _ _ t233 _ _ y269 true _ ?side1 ?side2 ?side3 ?side4 A71.out).mono ?_); (case side1 => repeat (first | exact (Kd.R_reads' HO_8.out).2.2 | (with_reducible refine Kd.C_alloc ?_ _) | (with_reducible refine Kd.C_drewN ?_ _) | (with_reducible refine Kd.C_drew ?_))); (case side2 => exact (Kd.R_reads' HO_8.out).2.1); (case side3 => repeat (first | exact (Kd.R_reads' HO271.out).2.2 | (with_reducible refine Kd.C_alloc ?_ _) | (with_reducible refine Kd.C_drewN ?_ _) | (with_reducible refine Kd.C_drew ?_))); (case side4 => exact (Kd.R_reads' HO271.out).2.1); rintro e w' ⟨rfl, ⟨nd, rfl⟩⟩) | ((with_reducible refine gate_dst (N := 110) rfl ?_); (try (refine gate_guard (by rfl) ?_; dsimp only)); refine Kd.R_lit k33 _ 33 ?hg (N := 110) ?hd (xs := ([(⟨0, (⟨#[97]⟩ : ByteArray) ++ x4_1⟩ : S33)] : List (S33))) (inner := [.int .i64 0, .string ((⟨#[97]⟩ : ByteArray) ++ x4_1)]) (ok := fun _ => True) (okp := fun _ => True) ?hr ?hp (fun _ hk => hk) trivial (Below.refl _ _) (Nat.le_refl _) (by simp) ?_; (case hd => rfl); (case hg => rfl); (case hr => first | (go_simp; done) | (go_simp; rfl)); (case hp => exact (Reps.c2 (show Kd.M k33 _ _ _ (⟨0, (⟨#[97]⟩ : ByteArray) ++ x4_1⟩ : S33) [.int .i64 0, .string ((⟨#[97]⟩ : ByteArray) ++ x4_1)] from (k33_mkM _ _ _ (⟨0, (⟨#[97]⟩ : ByteArray) ++ x4_1⟩ : S33) )) (Reps.none _ _))); intro v274 w82 ho83 hb hg_ hnew_; clear hg_ hnew_; (first | rw [← Ny273.out] at ho83 | (simp only [Int.reduceToNat] at ho83; rw [← Ny273.out] at ho83)); have n0_ := Aside0.mk (Kd.R_elder' (by (with_reducible repeat (first | apply Kd.R_alloc | apply Kd.R_drewN | apply Kd.R_drew)); exact HO_6.out) (Kd.R_base ho83) hb); have n1_ := Aside0.mk (Kd.R_elder' (by (with_reducible repeat (first | apply Kd.R_alloc | apply Kd.R_drewN | apply Kd.R_drew)); exact HO_8.out) (Kd.R_base ho83) hb); have n2_ := Aside0.mk (Kd.R_elder' (by (with_reducible repeat (first | apply Kd.R_alloc | apply Kd.R_drewN | apply Kd.R_drew)); exact HO_12.out) (Kd.R_base ho83) hb); have n3_ := Aside0.mk (Kd.R_elder' (by (with_reducible repeat (first | apply Kd.R_alloc | apply Kd.R_drewN | apply Kd.R_drew)); exact HO263.out) (Kd.R_base ho83) hb); have n4_ := Aside0.mk (Kd.R_elder' (by (with_reducible repeat (first | apply Kd.R_alloc | apply Kd.R_drewN | apply Kd.R_drew)); exact HO271.out) (Kd.R_base ho83) hb); have n5_ := Aside0.mk (Kd.R_lower (Kd.R_new' (Kd.R_new' (Kd.R_new' (Kd.R_new' (Kd.R_new' ho83 (Kd.R_lt (by (with_reducible repeat (first | apply Kd.R_alloc | apply Kd.R_drewN | apply Kd.R_drew)); exact HO_6.out))) (Kd.R_lt (by (with_reducible repeat (first | apply Kd.R_alloc | apply Kd.R_drewN | apply Kd.R_drew)); exact HO_8.out))) (Kd.R_lt (by (with_reducible repeat (first | apply Kd.R_alloc | apply Kd.R_drewN | apply Kd.R_drew)); exact HO_12.out))) (Kd.R_lt (by (with_reducible repeat (first | apply Kd.R_alloc | apply Kd.R_drewN | apply Kd.R_drew)); exact HO263.out))) (Kd.R_lt (by (with_reducible repeat (first | apply Kd.R_alloc | apply Kd.R_drewN | apply Kd.R_drew)); exact HO271.out))) (below_size (by repeat (first | (with_reducible first | exact HB.out | apply below_alloc | apply pw_below_drewN | apply below_drew1) | exact HB.out)))); have n6_ := Aside0.mk (below_step (by repeat (first | (with_reducible first | exact HB.out | apply below_alloc | apply pw_below_drewN | apply below_drew1) | exact HB.out)) hb); clear HO_6; clear HO_8; clear HO_12; clear HO263; clear HO271; clear HB; have HO_6 := n0_; have HO_8 := n1_; have HO_12 := n2_; have HO263 := n3_; have HO271 := n4_; have HO275 := n5_; have HB := n6_; clear n0_ n1_ n2_ n3_ n4_ n5_ n6_; clear hb ho83; obtain ⟨Ao84, co84, eo84⟩ := Kd.R_slice HO_12.out; subst eo84; obtain ⟨Ao85, co85, eo85⟩ := Kd.R_slice HO275.out; subst eo85) | (go_at_call 10; (with_reducible refine (quaerelaw0_SameWords.calls kj19 _ _ t241 _ _ y273 t276 _ ?side1 ?side2 ?side3 ?side4 A73.out).mono ?_); (case side1 => repeat (first | exact (Kd.R_reads' HO_12.out).2.2 | (with_reducible refine Kd.C_alloc ?_ _) | (with_reducible refine Kd.C_drewN ?_ _) | (with_reducible refine Kd.C_drew ?_))); (case side2 => exact (Kd.R_reads' HO_12.out).2.1); (case side3 => repeat (first | exact (Kd.R_reads' HO275.out).2.2 | (with_reducible refine Kd.C_alloc ?_ _) | (with_reducible refine Kd.C_drewN ?_ _) | (with_reducible refine Kd.C_drew ?_))); (case side4 => exact (Kd.R_reads' HO275.out).2.1); rintro e w' ⟨rfl, ⟨nd, rfl⟩⟩))
                              go_ret
                              exact ⟨by first | rfl | (simp [errW_none, errW_some] <;> rfl) | (simp [*, errW_none, errW_some] <;> rfl), by repeat (first | (with_reducible first | exact HB.out | apply below_alloc | apply pw_below_drewN | apply below_drew1) | exact HB.out)⟩
                            · replace c72 := Bool.eq_false_iff.mpr c72
                              subst c72
                              have H1 : (some false) = some r := by rw [if_neg (show ¬ (false = true) by decide)] at H; exact H
                              clear H
                              have H := H1
                              clear H1
                              obtain rfl := Option.some.inj H
                              go_wp2_with (first | ((with_reducible refine gate_dst (N := 90) rfl ?_); (try (refine gate_guard (by rfl) ?_; dsimp only)); refine Kd.R_lit k33 _ 33 ?hg (N := 90) ?hd (xs := ([(⟨2, x4_1⟩ : S33)] : List (S33))) (inner := [.int .i64 2, .string x4_1]) (ok := fun _ => True) (okp := fun _ => True) ?hr ?hp (fun _ hk => hk) trivial (Below.refl _ _) (Nat.le_refl _) (by simp) ?_; (case hd => rfl); (case hg => rfl); (case hr => first | (go_simp; done) | (go_simp; rfl)); (case hp => exact (Reps.c2 (show Kd.M k33 _ _ _ (⟨2, x4_1⟩ : S33) [.int .i64 2, .string x4_1] from (k33_mkM _ _ _ (⟨2, x4_1⟩ : S33) )) (Reps.none _ _))); intro v262 w86 ho87 hb hg_ hnew_; clear hg_ hnew_; (first | rw [← Ny261.out] at ho87 | (simp only [Int.reduceToNat] at ho87; rw [← Ny261.out] at ho87)); have n0_ := Aside0.mk (Kd.R_elder' (by (with_reducible repeat (first | apply Kd.R_alloc | apply Kd.R_drewN | apply Kd.R_drew)); exact HO_6.out) (Kd.R_base ho87) hb); have n1_ := Aside0.mk (Kd.R_elder' (by (with_reducible repeat (first | apply Kd.R_alloc | apply Kd.R_drewN | apply Kd.R_drew)); exact HO_8.out) (Kd.R_base ho87) hb); have n2_ := Aside0.mk (Kd.R_elder' (by (with_reducible repeat (first | apply Kd.R_alloc | apply Kd.R_drewN | apply Kd.R_drew)); exact HO_12.out) (Kd.R_base ho87) hb); have n3_ := Aside0.mk (Kd.R_lower (Kd.R_new' (Kd.R_new' (Kd.R_new' ho87 (Kd.R_lt (by (with_reducible repeat (first | apply Kd.R_alloc | apply Kd.R_drewN | apply Kd.R_drew)); exact HO_6.out))) (Kd.R_lt (by (with_reducible repeat (first | apply Kd.R_alloc | apply Kd.R_drewN | apply Kd.R_drew)); exact HO_8.out))) (Kd.R_lt (by (with_reducible repeat (first | apply Kd.R_alloc | apply Kd.R_drewN | apply Kd.R_drew)); exact HO_12.out))) (below_size (by repeat (first | (with_reducible first | exact HB.out | apply below_alloc | apply pw_below_drewN | apply below_drew1) | exact HB.out)))); have n4_ := Aside0.mk (below_step (by repeat (first | (with_reducible first | exact HB.out | apply below_alloc | apply pw_below_drewN | apply below_drew1) | exact HB.out)) hb); clear HO_6; clear HO_8; clear HO_12; clear HB; have HO_6 := n0_; have HO_8 := n1_; have HO_12 := n2_; have HO263 := n3_; have HB := n4_; clear n0_ n1_ n2_ n3_ n4_; clear hb ho87; obtain ⟨Ao88, co88, eo88⟩ := Kd.R_slice HO_6.out; subst eo88; obtain ⟨Ao89, co89, eo89⟩ := Kd.R_slice HO263.out; subst eo89) | (go_at_call 10; (with_reducible refine (quaerelaw0_SameWords.calls kj19 _ _ t229 _ _ y261 true _ ?side1 ?side2 ?side3 ?side4 A57.out).mono ?_); (case side1 => repeat (first | exact (Kd.R_reads' HO_6.out).2.2 | (with_reducible refine Kd.C_alloc ?_ _) | (with_reducible refine Kd.C_drewN ?_ _) | (with_reducible refine Kd.C_drew ?_))); (case side2 => exact (Kd.R_reads' HO_6.out).2.1); (case side3 => repeat (first | exact (Kd.R_reads' HO263.out).2.2 | (with_reducible refine Kd.C_alloc ?_ _) | (with_reducible refine Kd.C_drewN ?_ _) | (with_reducible refine Kd.C_drew ?_))); (case side4 => exact (Kd.R_reads' HO263.out).2.1); rintro e w' ⟨rfl, ⟨nd, rfl⟩⟩) | ((with_reducible refine gate_dst (N := 101) rfl ?_); (try (refine gate_guard (by rfl) ?_; dsimp only)); refine Kd.R_lit k33 _ 33 ?hg (N := 101) ?hd (xs := ([(⟨1, (⟨#[88]⟩ : ByteArray) ++ x4_1⟩ : S33)] : List (S33))) (inner := [.int .i64 1, .string ((⟨#[88]⟩ : ByteArray) ++ x4_1)]) (ok := fun _ => True) (okp := fun _ => True) ?hr ?hp (fun _ hk => hk) trivial (Below.refl _ _) (Nat.le_refl _) (by simp) ?_; (case hd => rfl); (case hg => rfl); (case hr => first | (go_simp; done) | (go_simp; rfl)); (case hp => exact (Reps.c2 (show Kd.M k33 _ _ _ (⟨1, (⟨#[88]⟩ : ByteArray) ++ x4_1⟩ : S33) [.int .i64 1, .string ((⟨#[88]⟩ : ByteArray) ++ x4_1)] from (k33_mkM _ _ _ (⟨1, (⟨#[88]⟩ : ByteArray) ++ x4_1⟩ : S33) )) (Reps.none _ _))); intro v270 w90 ho91 hb hg_ hnew_; clear hg_ hnew_; (first | rw [← Ny269.out] at ho91 | (simp only [Int.reduceToNat] at ho91; rw [← Ny269.out] at ho91)); have n0_ := Aside0.mk (Kd.R_elder' (by (with_reducible repeat (first | apply Kd.R_alloc | apply Kd.R_drewN | apply Kd.R_drew)); exact HO_6.out) (Kd.R_base ho91) hb); have n1_ := Aside0.mk (Kd.R_elder' (by (with_reducible repeat (first | apply Kd.R_alloc | apply Kd.R_drewN | apply Kd.R_drew)); exact HO_8.out) (Kd.R_base ho91) hb); have n2_ := Aside0.mk (Kd.R_elder' (by (with_reducible repeat (first | apply Kd.R_alloc | apply Kd.R_drewN | apply Kd.R_drew)); exact HO_12.out) (Kd.R_base ho91) hb); have n3_ := Aside0.mk (Kd.R_elder' (by (with_reducible repeat (first | apply Kd.R_alloc | apply Kd.R_drewN | apply Kd.R_drew)); exact HO263.out) (Kd.R_base ho91) hb); have n4_ := Aside0.mk (Kd.R_lower (Kd.R_new' (Kd.R_new' (Kd.R_new' (Kd.R_new' ho91 (Kd.R_lt (by (with_reducible repeat (first | apply Kd.R_alloc | apply Kd.R_drewN | apply Kd.R_drew)); exact HO_6.out))) (Kd.R_lt (by (with_reducible repeat (first | apply Kd.R_alloc | apply Kd.R_drewN | apply Kd.R_drew)); exact HO_8.out))) (Kd.R_lt (by (with_reducible repeat (first | apply Kd.R_alloc | apply Kd.R_drewN | apply Kd.R_drew)); exact HO_12.out))) (Kd.R_lt (by (with_reducible repeat (first | apply Kd.R_alloc | apply Kd.R_drewN | apply Kd.R_drew)); exact HO263.out))) (below_size (by repeat (first | (with_reducible first | exact HB.out | apply below_alloc | apply pw_below_drewN | apply below_drew1) | exact HB.out)))); have n5_ := Aside0.mk (below_step (by repeat (first | (with_reducible first | exact HB.out | apply below_alloc | apply pw_below_drewN | apply below_drew1) | exact HB.out)) hb); clear HO_6; clear HO_8; clear HO_12; clear HO263; clear HB; have HO_6 := n0_; have HO_8 := n1_; have HO_12 := n2_; have HO263 := n3_; have HO271 := n4_; have HB := n5_; clear n0_ n1_ n2_ n3_ n4_ n5_; clear hb ho91; obtain ⟨Ao92, co92, eo92⟩ := Kd.R_slice HO_8.out; subst eo92; obtain ⟨Ao93, co93, eo93⟩ := Kd.R_slice HO271.out; subst eo93) | (go_at_call 10; (with_reducible refine (quaerelaw0_SameWords.calls kj19 _ _ t233 _ _ y269 false _ ?side1 ?side2 ?side3 ?side4 A71.out).mono ?_); (case side1 => repeat (first | exact (Kd.R_reads' HO_8.out).2.2 | (with_reducible refine Kd.C_alloc ?_ _) | (with_reducible refine Kd.C_drewN ?_ _) | (with_reducible refine Kd.C_drew ?_))); (case side2 => exact (Kd.R_reads' HO_8.out).2.1); (case side3 => repeat (first | exact (Kd.R_reads' HO271.out).2.2 | (with_reducible refine Kd.C_alloc ?_ _) | (with_reducible refine Kd.C_drewN ?_ _) | (with_reducible refine Kd.C_drew ?_))); (case side4 => exact (Kd.R_reads' HO271.out).2.1); rintro e w' ⟨rfl, ⟨nd, rfl⟩⟩))
                              go_ret
                              exact ⟨by first | rfl | (simp [errW_none, errW_some] <;> rfl) | (simp [*, errW_none, errW_some] <;> rfl), by repeat (first | (with_reducible first | exact HB.out | apply below_alloc | apply pw_below_drewN | apply below_drew1) | exact HB.out)⟩
                          · rw [if_neg c70] at H
                            exact absurd H (by simp)
                      · replace c58 := Bool.eq_false_iff.mpr c58
                        subst c58
                        have H1 : (some false) = some r := by rw [if_neg (show ¬ (false = true) by decide)] at H; exact H
                        clear H
                        have H := H1
                        clear H1
                        obtain rfl := Option.some.inj H
                        go_wp2_with (first | ((with_reducible refine gate_dst (N := 90) rfl ?_); (try (refine gate_guard (by rfl) ?_; dsimp only)); refine Kd.R_lit k33 _ 33 ?hg (N := 90) ?hd (xs := ([(⟨2, x4_1⟩ : S33)] : List (S33))) (inner := [.int .i64 2, .string x4_1]) (ok := fun _ => True) (okp := fun _ => True) ?hr ?hp (fun _ hk => hk) trivial (Below.refl _ _) (Nat.le_refl _) (by simp) ?_; (case hd => rfl); (case hg => rfl); (case hr => first | (go_simp; done) | (go_simp; rfl)); (case hp => exact (Reps.c2 (show Kd.M k33 _ _ _ (⟨2, x4_1⟩ : S33) [.int .i64 2, .string x4_1] from (k33_mkM _ _ _ (⟨2, x4_1⟩ : S33) )) (Reps.none _ _))); intro v262 w94 ho95 hb hg_ hnew_; clear hg_ hnew_; (first | rw [← Ny261.out] at ho95 | (simp only [Int.reduceToNat] at ho95; rw [← Ny261.out] at ho95)); have n0_ := Aside0.mk (Kd.R_elder' (by (with_reducible repeat (first | apply Kd.R_alloc | apply Kd.R_drewN | apply Kd.R_drew)); exact HO_6.out) (Kd.R_base ho95) hb); have n1_ := Aside0.mk (Kd.R_elder' (by (with_reducible repeat (first | apply Kd.R_alloc | apply Kd.R_drewN | apply Kd.R_drew)); exact HO_8.out) (Kd.R_base ho95) hb); have n2_ := Aside0.mk (Kd.R_elder' (by (with_reducible repeat (first | apply Kd.R_alloc | apply Kd.R_drewN | apply Kd.R_drew)); exact HO_12.out) (Kd.R_base ho95) hb); have n3_ := Aside0.mk (Kd.R_lower (Kd.R_new' (Kd.R_new' (Kd.R_new' ho95 (Kd.R_lt (by (with_reducible repeat (first | apply Kd.R_alloc | apply Kd.R_drewN | apply Kd.R_drew)); exact HO_6.out))) (Kd.R_lt (by (with_reducible repeat (first | apply Kd.R_alloc | apply Kd.R_drewN | apply Kd.R_drew)); exact HO_8.out))) (Kd.R_lt (by (with_reducible repeat (first | apply Kd.R_alloc | apply Kd.R_drewN | apply Kd.R_drew)); exact HO_12.out))) (below_size (by repeat (first | (with_reducible first | exact HB.out | apply below_alloc | apply pw_below_drewN | apply below_drew1) | exact HB.out)))); have n4_ := Aside0.mk (below_step (by repeat (first | (with_reducible first | exact HB.out | apply below_alloc | apply pw_below_drewN | apply below_drew1) | exact HB.out)) hb); clear HO_6; clear HO_8; clear HO_12; clear HB; have HO_6 := n0_; have HO_8 := n1_; have HO_12 := n2_; have HO263 := n3_; have HB := n4_; clear n0_ n1_ n2_ n3_ n4_; clear hb ho95; obtain ⟨Ao96, co96, eo96⟩ := Kd.R_slice HO_6.out; subst eo96; obtain ⟨Ao97, co97, eo97⟩ := Kd.R_slice HO263.out; subst eo97) | (go_at_call 10; (with_reducible refine (quaerelaw0_SameWords.calls kj19 _ _ t229 _ _ y261 false _ ?side1 ?side2 ?side3 ?side4 A57.out).mono ?_); (case side1 => repeat (first | exact (Kd.R_reads' HO_6.out).2.2 | (with_reducible refine Kd.C_alloc ?_ _) | (with_reducible refine Kd.C_drewN ?_ _) | (with_reducible refine Kd.C_drew ?_))); (case side2 => exact (Kd.R_reads' HO_6.out).2.1); (case side3 => repeat (first | exact (Kd.R_reads' HO263.out).2.2 | (with_reducible refine Kd.C_alloc ?_ _) | (with_reducible refine Kd.C_drewN ?_ _) | (with_reducible refine Kd.C_drew ?_))); (case side4 => exact (Kd.R_reads' HO263.out).2.1); rintro e w' ⟨rfl, ⟨nd, rfl⟩⟩))
                        go_ret
                        exact ⟨by first | rfl | (simp [errW_none, errW_some] <;> rfl) | (simp [*, errW_none, errW_some] <;> rfl), by repeat (first | (with_reducible first | exact HB.out | apply below_alloc | apply pw_below_drewN | apply below_drew1) | exact HB.out)⟩
            · rw [if_neg c16] at H
              exact absurd H (by simp)
  · replace c3 := Bool.eq_false_iff.mpr c3
    subst c3
    have H1 : (some false) = some r := by rw [if_neg (show ¬ (false = true) by decide)] at H; exact H
    clear H
    have H := H1
    clear H1
    obtain rfl := Option.some.inj H
    go_enter Try.func6, Try.ntmps6
    go_wp2_with (first | ((with_reducible refine gate_callee (f := 12) rfl ?_); refine goesL_ (some 14) rfl rfl Try.func12 (by kernel_rfl) rfl #[] rfl (by (try simp only [List.map_toArray, List.map_cons, List.map_nil]); first | done | rfl | (simp only [List.length_drop, List.length_take]; rfl)) ?_; (with_reducible refine (quaerelaw21_awake.calls k  false _ A2.out).mono ?_); rintro e w98 ⟨rfl, hb⟩; refine ⟨_, rfl, ?_⟩; have n0_ := Aside0.mk (below_step (by repeat (first | (with_reducible first | exact HB.out | apply below_alloc | apply pw_below_drewN | apply below_drew1) | exact HB.out)) hb); clear HB; have HB := n0_; clear n0_; (try clear hb); (try clear hb2); (try clear hk); (try clear hi)))
    go_ret
    exact ⟨by first | rfl | (simp [errW_none, errW_some] <;> rfl) | (simp [*, errW_none, errW_some] <;> rfl), by repeat (first | (with_reducible first | exact HB.out | apply below_alloc | apply pw_below_drewN | apply below_drew1) | exact HB.out)⟩

/-- THE ONE PURE STATEMENT of quaerelaw21_LexNumbers: yours. -/
def quaerelaw21_LexNumbers.Pure : Prop := ∀ (a0 : Int), (Lit.int .i64 a0).wf = true → ∃ k, quaerelaw21_LexNumbers.f k a0 = some true
theorem quaerelaw21_LexNumbers.walk (P : quaerelaw21_LexNumbers.Pure) (a0 : Int) (w : World) (w0 : (Lit.int .i64 a0).wf = true) :
    Calls Try.prog 6 #[.int .i64 a0] w fun e w' => e = .returned (.bool true) ∧ Below w.heap.size w w' := by
  obtain ⟨k, h⟩ := P a0 w0
  refine (quaerelaw21_LexNumbers.calls k a0 true w h).mono ?_
  rintro e w' ⟨rfl, hd⟩
  exact ⟨rfl, hd⟩

/-! ### quaerelaw21_LexLong: function 7 -/
def quaerelaw21_LexLong.l0 : Nat → Int → List Int → Int → Option (Bool)
  | 0, _, _, _ => none
  | k + 1, x3, x4, x5 => if x5 < (x4.length : Int) then (if 0 ≤ x5 then (quaerelaw21_LexLong.l0 k x3 (x4.set (x5 : Int).toNat 32) (wrap64 (x5 + 1))) else (none)) else ((lex_Lex.f k (strOfNums x4)).bind fun bt282 => ((quaerelaw0_Num.f bt282.2).bind fun t286 => (if ((t286 == 0) == (decide (x3 ≤ 2048))) = true then (some ((bt282.1.length : Int) == 0)) else (some false))))
def quaerelaw21_LexLong.f (k : Nat) (a0 : Int) : Option (Bool) := (quaerelaw21_awake.f k).bind fun t277 => (if t277 = true then (if 0 ≤ (wrap64 (2045 + (wrap64 (Int.tmod (IntKind.u64.wrap (a0)) 7)))) then (if (wrap64 (2045 + (wrap64 (Int.tmod (IntKind.u64.wrap (a0)) 7))) : Int).toNat ≤ 281474976710656 then (quaerelaw21_LexLong.l0 k (wrap64 (2045 + (wrap64 (Int.tmod (IntKind.u64.wrap (a0)) 7)))) (List.replicate (wrap64 (2045 + (wrap64 (Int.tmod (IntKind.u64.wrap (a0)) 7))) : Int).toNat 0) 0) else (none)) else (none)) else (some false))
theorem quaerelaw21_LexLong.mono_l : ∀ k, (∀ y0 y1 y2, LeO (quaerelaw21_LexLong.l0 k y0 y1 y2) (quaerelaw21_LexLong.l0 (k + 1) y0 y1 y2))
  | 0 => fun _ _ _ r h => by simp [quaerelaw21_LexLong.l0] at h
  | k + 1 => by
    have ih0 := quaerelaw21_LexLong.mono_l k
    · intro y0 y1 y2
      unfold quaerelaw21_LexLong.l0
      repeat' first
      | (with_reducible exact ih0 _ _ _)
      | (with_reducible exact lex_Lex.mono _ _)
      | (with_reducible exact quaerelaw21_awake.mono _)
      | (with_reducible exact LeO.refl _)
      | (with_reducible exact LeO.none _)
      | (with_reducible refine LeO.ite ?_ ?_)
      | (with_reducible refine LeO.bind ?_ (fun _ => ?_))
      | exact ih0 _ _ _
      | exact lex_Lex.mono _ _
      | exact quaerelaw21_awake.mono _
      | exact LeO.none _
      | refine LeO.ite ?_ ?_
      | refine LeO.bind ?_ (fun _ => ?_)
theorem quaerelaw21_LexLong.mono : ∀ a0 k, LeO (quaerelaw21_LexLong.f k a0) (quaerelaw21_LexLong.f (k + 1) a0) := by
  intro a0 k
  have ih0 := quaerelaw21_LexLong.mono_l k
  unfold quaerelaw21_LexLong.f
  repeat' first
      | (with_reducible exact ih0 _ _ _)
      | (with_reducible exact lex_Lex.mono _ _)
      | (with_reducible exact quaerelaw21_awake.mono _)
      | (with_reducible exact LeO.refl _)
      | (with_reducible exact LeO.none _)
      | (with_reducible refine LeO.ite ?_ ?_)
      | (with_reducible refine LeO.bind ?_ (fun _ => ?_))
      | exact ih0 _ _ _
      | exact lex_Lex.mono _ _
      | exact quaerelaw21_awake.mono _
      | exact LeO.none _
      | refine LeO.ite ?_ ?_
      | refine LeO.bind ?_ (fun _ => ?_)
set_option maxHeartbeats 8000000 in
set_option maxRecDepth 100000 in
theorem quaerelaw21_LexLong.calls (k : Nat) (a0 : Int) (r : Bool) (w : World) (h : quaerelaw21_LexLong.f k a0 = some r) :
    Calls Try.prog 7 #[.int .i64 a0] w fun e w' => e = .returned (.bool r) ∧ Below w.heap.size w w' := by
  have HB := Aside0.mk (Below.refl w.heap.size w)
  have H : ((quaerelaw21_awake.f k).bind fun t277 => (if t277 = true then (if 0 ≤ (wrap64 (2045 + (wrap64 (Int.tmod (IntKind.u64.wrap (a0)) 7)))) then (if (wrap64 (2045 + (wrap64 (Int.tmod (IntKind.u64.wrap (a0)) 7))) : Int).toNat ≤ 281474976710656 then (quaerelaw21_LexLong.l0 k (wrap64 (2045 + (wrap64 (Int.tmod (IntKind.u64.wrap (a0)) 7)))) (List.replicate (wrap64 (2045 + (wrap64 (Int.tmod (IntKind.u64.wrap (a0)) 7))) : Int).toNat 0) 0) else (none)) else (none)) else (some false))) = some r := h
  clear h
  replace H := Option.bind_eq_some_iff.mp H
  obtain ⟨t277, A20, H⟩ := H
  replace H : (if t277 = true then (if 0 ≤ (wrap64 (2045 + (wrap64 (Int.tmod (IntKind.u64.wrap (a0)) 7)))) then (if (wrap64 (2045 + (wrap64 (Int.tmod (IntKind.u64.wrap (a0)) 7))) : Int).toNat ≤ 281474976710656 then (quaerelaw21_LexLong.l0 k (wrap64 (2045 + (wrap64 (Int.tmod (IntKind.u64.wrap (a0)) 7)))) (List.replicate (wrap64 (2045 + (wrap64 (Int.tmod (IntKind.u64.wrap (a0)) 7))) : Int).toNat 0) 0) else (none)) else (none)) else (some false)) = some r := H
  have A2 := Aside0.mk A20
  clear A20
  by_cases c3 : t277 = true
  · subst c3
    have H1 : (if 0 ≤ (wrap64 (2045 + (wrap64 (Int.tmod (IntKind.u64.wrap (a0)) 7)))) then (if (wrap64 (2045 + (wrap64 (Int.tmod (IntKind.u64.wrap (a0)) 7))) : Int).toNat ≤ 281474976710656 then (quaerelaw21_LexLong.l0 k (wrap64 (2045 + (wrap64 (Int.tmod (IntKind.u64.wrap (a0)) 7)))) (List.replicate (wrap64 (2045 + (wrap64 (Int.tmod (IntKind.u64.wrap (a0)) 7))) : Int).toNat 0) 0) else (none)) else (none)) = some r := by rw [if_pos rfl] at H; exact H
    clear H
    have H := H1
    clear H1
    obtain ⟨ji4, hji4⟩ : ∃ j_ : Int, (wrap64 (2045 + (wrap64 (Int.tmod (IntKind.u64.wrap (a0)) 7)))) = j_ := ⟨_, rfl⟩
    replace H : (if 0 ≤ (ji4) then (if (ji4 : Int).toNat ≤ 281474976710656 then (quaerelaw21_LexLong.l0 k ji4 (List.replicate (ji4 : Int).toNat 0) 0) else (none)) else (none)) = some r := by first | (rw [hji4] at H; exact H) | (simp only [hji4] at H ⊢; exact H)
    (try rw [hji4] at A2)
    have hji4w : (IntKind.i64.wrap (2045 + (wrap64 (Int.tmod (IntKind.u64.wrap (a0)) 7)))) = ji4 := (i64_w _).trans hji4
    by_cases c5 : 0 ≤ (ji4)
    · rw [if_pos c5] at H
      have c5b0 := eq_true c5
      have c5b1 : decide (0 ≤ (ji4)) = true := decide_eq_true c5
      clear c5
      by_cases c6 : (ji4 : Int).toNat ≤ 281474976710656
      · rw [if_pos c6] at H
        have c6b0 := eq_true c6
        have c6b1 : decide ((ji4 : Int).toNat ≤ 281474976710656) = true := decide_eq_true c6
        clear c6
        obtain ⟨y278, hy278⟩ : ∃ y_ : List Int, y_ = (List.replicate (ji4 : Int).toNat 0) := ⟨_, rfl⟩
        replace H : (quaerelaw21_LexLong.l0 k ji4 y278 0) = some r := by first | (rw [hy278]; with_reducible exact H) | (have H2_ := (Option.bind_some _ _).symm.trans H; rw [hy278]; with_reducible exact H2_) | (have H2_ := (Option.bind_some _ _).symm.trans H; with_reducible exact H2_) | with_reducible exact H | (rw [hy278]; exact H) | exact H
        have Ny278 := Aside0.mk hy278
        clear hy278
        have H' := Aside0.mk H
        clear H
        go_enter Try.func7, Try.ntmps7
        go_wp2_with (first | ((with_reducible refine gate_callee (f := 12) rfl ?_); refine goesL_ (some 8) rfl rfl Try.func12 (by kernel_rfl) rfl #[] rfl (by (try simp only [List.map_toArray, List.map_cons, List.map_nil]); first | done | rfl | (simp only [List.length_drop, List.length_take]; rfl)) ?_; (with_reducible refine (quaerelaw21_awake.calls k  true _ A2.out).mono ?_); rintro e w7 ⟨rfl, hb⟩; refine ⟨_, rfl, ?_⟩; have n0_ := Aside0.mk (below_step (by repeat (first | (with_reducible first | exact HB.out | apply below_alloc | apply pw_below_drewN | apply below_drew1) | exact HB.out)) hb); clear HB; have HB := n0_; clear n0_; (try clear hb); (try clear hb2); (try clear hk); (try clear hi)) | ((with_reducible refine gate_dst (N := 16) rfl ?_); (try (refine gate_guard (by rfl) ?_; dsimp only)); refine Kd.R_make (Kd.int .u8) _ 5 rfl (N := 16) rfl 36 _ _ rfl ji4 rfl rfl Try.underlying36 (.int .u8 0) 1 info5 rfl (by decide) (by omega) 0 (ok := fun _ => True) (okp := fun _ => True) rfl (fun _ hk => hk) trivial (of_decide_eq_true (by first | (with_reducible assumption) | assumption)) (Nat.le_trans (Nat.mul_le_mul_right _ (of_decide_eq_true (by first | (with_reducible assumption) | assumption) : ji4.toNat ≤ 281474976710656)) (by omega)) (Below.refl _ _) (Nat.le_refl _) ?_; intro v279 w8 ho9 hb hg_ hnew_; clear hg_ hnew_; (first | rw [← Ny278.out] at ho9 | (simp only [Int.reduceToNat] at ho9; rw [← Ny278.out] at ho9)); have n0_ := Aside0.mk (Kd.R_lower ho9 (below_size (by repeat (first | (with_reducible first | exact HB.out | apply below_alloc | apply pw_below_drewN | apply below_drew1) | exact HB.out)))); have n1_ := Aside0.mk (below_step (by repeat (first | (with_reducible first | exact HB.out | apply below_alloc | apply pw_below_drewN | apply below_drew1) | exact HB.out)) hb); clear HB; have HO280 := n0_; have HB := n1_; clear n0_ n1_; clear hb ho9))
        go_loopg [5] k (fun kq v5 w' => ∃ (x4_1 : List Int) (x5_1 : Int), v5 = .int .i64 x5_1 ∧ Aside0 (quaerelaw21_LexLong.l0 kq ji4 x4_1 x5_1 = some r) ∧ Aside0 (kq ≤ k) ∧ Aside0 (Kd.R (Kd.int .u8) 5 w' w.heap.size (fun _ => True) v279 x4_1) ∧ Aside0 (Below w.heap.size w w'))
        case atStart => exact ⟨(y278), (0), (by first | rfl | (simp; done) | (simp [*]; done)), H', ⟨Nat.le_refl _⟩, ⟨by (with_reducible repeat (first | apply Kd.R_alloc | apply Kd.R_drewN | apply Kd.R_drew)); exact HO280.out⟩, ⟨by repeat (first | (with_reducible first | exact HB.out | apply below_alloc | apply pw_below_drewN | apply below_drew1) | exact HB.out)⟩⟩
        case round =>
          clear H'
          try clear c1
          try clear p2
          try clear c3
          try clear c5
          try clear c5b0
          try clear c5b1
          try clear c6
          try clear c6b0
          try clear c6b1
          try clear p6
          try clear c7
          obtain ⟨x4_1, x5_1, rfl, HA, HK1, HO_4, HB⟩ := hrel
          cases gk with
          | zero => exact absurd HA.out (by simp [quaerelaw21_LexLong.l0])
          | succ k1 =>
            have H := HA.out
            clear HA
            simp only [quaerelaw21_LexLong.l0] at H
            by_cases c10 : x5_1 < (x4_1.length : Int)
            · rw [if_pos c10] at H
              have c10b0 : decide (x5_1 < (x4_1.length : Int)) = true := decide_eq_true c10
              clear c10
              by_cases c11 : 0 ≤ x5_1
              · rw [if_pos c11] at H
                have c11b0 : decide (0 ≤ x5_1) = true := decide_eq_true c11
                clear c11
                obtain ⟨y281, hy281⟩ : ∃ y_ : List Int, y_ = (x4_1.set (x5_1 : Int).toNat 32) := ⟨_, rfl⟩
                replace H : (quaerelaw21_LexLong.l0 k1 ji4 y281 (wrap64 (x5_1 + 1))) = some r := by first | (rw [hy281]; with_reducible exact H) | (have H2_ := (Option.bind_some _ _).symm.trans H; rw [hy281]; with_reducible exact H2_) | (have H2_ := (Option.bind_some _ _).symm.trans H; with_reducible exact H2_) | with_reducible exact H | (rw [hy281]; exact H) | exact H
                have Ny281 := Aside0.mk hy281
                clear hy281
                have H' := Aside0.mk H
                clear H
                obtain ⟨Ao13, co13, eo13⟩ := Kd.R_slice HO_4.out
                subst eo13
                have p12 : 0 ≤ (x5_1 : Int) := of_decide_eq_true (by first | (with_reducible assumption) | assumption)
                have q12 : (x5_1 : Int) < ((x4_1.length : Int) : Int) := of_decide_eq_true (by first | (with_reducible assumption) | assumption)
                obtain ⟨go12, co12, eo12, gb12, gl12, cl12, HG12⟩ := Kd.R_form HO_4.out (by omega)
                (first | cases eo12 | (injection eo12 with ea_ en_ ec_; (first | subst ea_ | (injection ea_ with ea_; subst ea_)); subst ec_; clear en_))
                have GB12 := Aside0.mk gb12
                have GG12 := Aside0.mk HG12
                clear gb12 gl12 HG12
                obtain ⟨hx12_0, hf12_0⟩ := Kd.R_celln 0 HO_4.out (x5_1 : Int) p12 q12
                replace p12 := eq_true p12
                replace q12 := eq_true q12
                have HP14 := Kd.R_putg HO_4.out (x5_1 : Int) 32
                go_wp2_with (first | ((with_reducible refine gate_store (t := 5) (p := 25) rfl ?_); refine store_event (t := 5) (p := 25) (v := ?vo_w15) (w1 := (wr.setCell ⟨go12, (x5_1 : Int).toNat, none⟩ (.int .u8 32))) ?hg ?ho ?hn ?hr ?_; (case ho => rfl); (case hg => rfl); (case hn => rfl); (case hr => first | (go_simp; done) | (go_simp; rfl)); intro w15 hw; have hg : wr.grownBy w15 (some go12) := (by rw [hw]; exact HP14.2); have hp_ : Kd.R (Kd.int .u8) 5 w15 w.heap.size (fun _ => True) (.slice (some ⟨go12, 0, none⟩) x4_1.length co13) y281 := (by rw [hw, Ny281.out]; exact HP14.1); clear HP14; have n0_ := Aside0.mk (hp_); have n1_ := Aside0.mk ((by rw [hw]; exact below_set (HB.out) GB12.out : Below w.heap.size w w15)); clear HO_4; clear HB; have HO_4 := n0_; have HB := n1_; clear n0_ n1_; clear hg hw hp_))
                go_roundg k1
                case measure => have := HK1.out; omega
                case rel => exact ⟨(y281), (wrap64 (x5_1 + 1)), (by first | rfl | (simp; done) | (simp [*]; done)), H', ⟨by have := HK1.out; omega⟩, ⟨by (with_reducible repeat (first | apply Kd.R_alloc | apply Kd.R_drewN | apply Kd.R_drew)); exact HO_4.out⟩, ⟨by repeat (first | (with_reducible first | exact HB.out | apply below_alloc | apply pw_below_drewN | apply below_drew1) | exact HB.out)⟩⟩
              · rw [if_neg c11] at H
                exact absurd H (by simp)
            · rw [if_neg c10] at H
              have c10b0 : decide (x5_1 < (x4_1.length : Int)) = false := decide_eq_false c10
              clear c10
              replace H := Option.bind_eq_some_iff.mp H
              obtain ⟨⟨t282, t283⟩, A160, H⟩ := H
              replace H : ((quaerelaw0_Num.f t283).bind fun t286 => (if ((t286 == 0) == (decide (ji4 ≤ 2048))) = true then (some ((t282.length : Int) == 0)) else (some false))) = some r := H
              have A16 := Aside0.mk A160
              clear A160
              replace H := Option.bind_eq_some_iff.mp H
              obtain ⟨t286, A170, H⟩ := H
              replace H : (if ((t286 == 0) == (decide (ji4 ≤ 2048))) = true then (some ((t282.length : Int) == 0)) else (some false)) = some r := H
              have A17 := Aside0.mk A170
              clear A170
              by_cases c18 : ((t286 == 0) == (decide (ji4 ≤ 2048))) = true
              · rw [if_pos c18] at H
                have c18b0 : ((t286 == 0) == (decide (ji4 ≤ 2048))) = true := c18
                (try (have c18b1 : decide ((t286 == 0) = (decide (ji4 ≤ 2048))) = true := by simpa using c18))
                (try (have c18b2 : ((t286 == 0) == (decide (ji4 ≤ 2048))) = true := by simpa using c18))
                clear c18
                obtain rfl := Option.some.inj H
                obtain ⟨Ao19, co19, eo19⟩ := Kd.R_slice HO_4.out
                subst eo19
                have hcv20 := own_string (P := Try.prog) Try.underlying36 Try.underlying5 Try.underlying9 (Kd.own_of_R HO_4.out)
                go_wp2_with (first | ((with_reducible refine gate_callee (f := 8) rfl ?_); refine goesL_ (some 29) rfl rfl Try.func8 (by kernel_rfl) rfl #[.string (strOfNums x4_1)] rfl (by (try simp only [List.map_toArray, List.map_cons, List.map_nil]); first | done | rfl | (simp only [List.length_drop, List.length_take]; rfl)) ?_; (with_reducible refine (lex_Lex.calls k1 (strOfNums x4_1) t282 t283 _ A16.out).mono ?_); rintro e w21 ⟨v284, rfl, ho0, hb⟩; refine ⟨_, rfl, ?_⟩; have n0_ := Aside0.mk (Kd.R_below (by (with_reducible repeat (first | apply Kd.R_alloc | apply Kd.R_drewN | apply Kd.R_drew)); exact HO_4.out) hb); have n1_ := Aside0.mk (Kd.R_lower ho0 (below_size (by repeat (first | (with_reducible first | exact HB.out | apply below_alloc | apply pw_below_drewN | apply below_drew1) | exact HB.out)))); have n2_ := Aside0.mk (below_step (by repeat (first | (with_reducible first | exact HB.out | apply below_alloc | apply pw_below_drewN | apply below_drew1) | exact HB.out)) hb); clear HO_4; clear HB; have HO_4 := n0_; have HO285 := n1_; have HB := n2_; clear n0_ n1_ n2_; (try clear hb); (try clear hb2); (try clear hk); (try clear hi); (try clear ho0)) | ((with_reducible refine gate_callee (f := 11) rfl ?_); refine goesL_ (some 33) rfl rfl Try.func11 (by kernel_rfl) rfl #[.int .i64 t283] rfl (by (try simp only [List.map_toArray, List.map_cons, List.map_nil]); first | done | rfl | (simp only [List.length_drop, List.length_take]; rfl)) ?_; (with_reducible refine (quaerelaw0_Num.calls t283 t286 _ A17.out).mono ?_); rintro e w' ⟨rfl, ⟨nd, rfl⟩⟩; refine ⟨_, rfl, ?_⟩; obtain ⟨Ao22, co22, eo22⟩ := Kd.R_slice HO285.out; subst eo22))
                go_ret
                exact ⟨by first | rfl | (simp [errW_none, errW_some] <;> rfl) | (simp only [← hji4]; first | rfl | (simp [errW_none, errW_some] <;> rfl)) | (simp [*, errW_none, errW_some] <;> rfl), by repeat (first | (with_reducible first | exact HB.out | apply below_alloc | apply pw_below_drewN | apply below_drew1) | exact HB.out)⟩
              · rw [if_neg c18] at H
                have c18b0 : ((t286 == 0) == (decide (ji4 ≤ 2048))) = false := by simpa using c18
                (try (have c18b1 : decide ((t286 == 0) = (decide (ji4 ≤ 2048))) = false := by simpa using c18))
                (try (have c18b2 : ((t286 == 0) == (decide (ji4 ≤ 2048))) = false := by simpa using c18))
                (try (have c18b3 : ¬ ((t286 == 0) = (decide (ji4 ≤ 2048))) := by simpa using c18))
                clear c18
                obtain rfl := Option.some.inj H
                obtain ⟨Ao23, co23, eo23⟩ := Kd.R_slice HO_4.out
                subst eo23
                have hcv24 := own_string (P := Try.prog) Try.underlying36 Try.underlying5 Try.underlying9 (Kd.own_of_R HO_4.out)
                go_wp2_with (first | ((with_reducible refine gate_callee (f := 8) rfl ?_); refine goesL_ (some 29) rfl rfl Try.func8 (by kernel_rfl) rfl #[.string (strOfNums x4_1)] rfl (by (try simp only [List.map_toArray, List.map_cons, List.map_nil]); first | done | rfl | (simp only [List.length_drop, List.length_take]; rfl)) ?_; (with_reducible refine (lex_Lex.calls k1 (strOfNums x4_1) t282 t283 _ A16.out).mono ?_); rintro e w25 ⟨v284, rfl, ho0, hb⟩; refine ⟨_, rfl, ?_⟩; have n0_ := Aside0.mk (Kd.R_below (by (with_reducible repeat (first | apply Kd.R_alloc | apply Kd.R_drewN | apply Kd.R_drew)); exact HO_4.out) hb); have n1_ := Aside0.mk (Kd.R_lower ho0 (below_size (by repeat (first | (with_reducible first | exact HB.out | apply below_alloc | apply pw_below_drewN | apply below_drew1) | exact HB.out)))); have n2_ := Aside0.mk (below_step (by repeat (first | (with_reducible first | exact HB.out | apply below_alloc | apply pw_below_drewN | apply below_drew1) | exact HB.out)) hb); clear HO_4; clear HB; have HO_4 := n0_; have HO285 := n1_; have HB := n2_; clear n0_ n1_ n2_; (try clear hb); (try clear hb2); (try clear hk); (try clear hi); (try clear ho0)) | ((with_reducible refine gate_callee (f := 11) rfl ?_); refine goesL_ (some 33) rfl rfl Try.func11 (by kernel_rfl) rfl #[.int .i64 t283] rfl (by (try simp only [List.map_toArray, List.map_cons, List.map_nil]); first | done | rfl | (simp only [List.length_drop, List.length_take]; rfl)) ?_; (with_reducible refine (quaerelaw0_Num.calls t283 t286 _ A17.out).mono ?_); rintro e w' ⟨rfl, ⟨nd, rfl⟩⟩; refine ⟨_, rfl, ?_⟩))
                go_ret
                exact ⟨by first | rfl | (simp [errW_none, errW_some] <;> rfl) | (simp only [← hji4]; first | rfl | (simp [errW_none, errW_some] <;> rfl)) | (simp [*, errW_none, errW_some] <;> rfl), by repeat (first | (with_reducible first | exact HB.out | apply below_alloc | apply pw_below_drewN | apply below_drew1) | exact HB.out)⟩
      · rw [if_neg c6] at H
        exact absurd H (by simp)
    · rw [if_neg c5] at H
      exact absurd H (by simp)
  · replace c3 := Bool.eq_false_iff.mpr c3
    subst c3
    have H1 : (some false) = some r := by rw [if_neg (show ¬ (false = true) by decide)] at H; exact H
    clear H
    have H := H1
    clear H1
    obtain rfl := Option.some.inj H
    go_enter Try.func7, Try.ntmps7
    go_wp2_with (first | ((with_reducible refine gate_callee (f := 12) rfl ?_); refine goesL_ (some 8) rfl rfl Try.func12 (by kernel_rfl) rfl #[] rfl (by (try simp only [List.map_toArray, List.map_cons, List.map_nil]); first | done | rfl | (simp only [List.length_drop, List.length_take]; rfl)) ?_; (with_reducible refine (quaerelaw21_awake.calls k  false _ A2.out).mono ?_); rintro e w26 ⟨rfl, hb⟩; refine ⟨_, rfl, ?_⟩; have n0_ := Aside0.mk (below_step (by repeat (first | (with_reducible first | exact HB.out | apply below_alloc | apply pw_below_drewN | apply below_drew1) | exact HB.out)) hb); clear HB; have HB := n0_; clear n0_; (try clear hb); (try clear hb2); (try clear hk); (try clear hi)))
    go_ret
    exact ⟨by first | rfl | (simp [errW_none, errW_some] <;> rfl) | (simp [*, errW_none, errW_some] <;> rfl), by repeat (first | (with_reducible first | exact HB.out | apply below_alloc | apply pw_below_drewN | apply below_drew1) | exact HB.out)⟩

/-- THE ONE PURE STATEMENT of quaerelaw21_LexLong: yours. -/
def quaerelaw21_LexLong.Pure : Prop := ∀ (a0 : Int), (Lit.int .i64 a0).wf = true → ∃ k, quaerelaw21_LexLong.f k a0 = some true
theorem quaerelaw21_LexLong.walk (P : quaerelaw21_LexLong.Pure) (a0 : Int) (w : World) (w0 : (Lit.int .i64 a0).wf = true) :
    Calls Try.prog 7 #[.int .i64 a0] w fun e w' => e = .returned (.bool true) ∧ Below w.heap.size w w' := by
  obtain ⟨k, h⟩ := P a0 w0
  refine (quaerelaw21_LexLong.calls k a0 true w h).mono ?_
  rintro e w' ⟨rfl, hd⟩
  exact ⟨rfl, hd⟩

end Go.Proofs.Ytajdnphpjlfajaa.Q
