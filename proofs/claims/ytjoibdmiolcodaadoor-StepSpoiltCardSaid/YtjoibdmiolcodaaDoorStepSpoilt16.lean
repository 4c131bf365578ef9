/- StepSpoilt. For every input; no condition. -/
import Derived.Test.YtjoibdmiolcodaaDoorStepSpoilt0
import Derived.Test.YtjoibdmiolcodaaDoorStepSpoilt1
import Derived.Test.YtjoibdmiolcodaaDoorStepSpoilt2
import Derived.Test.YtjoibdmiolcodaaDoorStepSpoilt3
import Derived.Test.YtjoibdmiolcodaaDoorStepSpoilt4
import Derived.Test.YtjoibdmiolcodaaDoorStepSpoilt5
import Derived.Test.YtjoibdmiolcodaaDoorStepSpoilt6
import Derived.Test.YtjoibdmiolcodaaDoorStepSpoilt7
import Derived.Test.YtjoibdmiolcodaaDoorStepSpoilt8
import Derived.Test.YtjoibdmiolcodaaDoorStepSpoilt9
import Derived.Test.YtjoibdmiolcodaaDoorStepSpoilt10
import Derived.Test.YtjoibdmiolcodaaDoorStepSpoilt11
import Derived.Test.YtjoibdmiolcodaaDoorStepSpoilt12
import Derived.Test.YtjoibdmiolcodaaDoorStepSpoilt13
import Derived.Test.YtjoibdmiolcodaaDoorStepSpoilt14
import Derived.Test.YtjoibdmiolcodaaDoorStepSpoilt15
set_option linter.unusedVariables false
set_option linter.unusedSimpArgs false
set_option maxRecDepth 100000
namespace Go.Proofs.YtjoibdmiolcodaaDoor.Ab
open Go Go.Ab Go.Qu Go.Proofs
theorem wr64 {n : Int} (h0 : 0 ≤ n) (h1 : n ≤ 1000000) : IntKind.wrap .u64 n = n := by
  simp [IntKind.wrap, IntKind.bits, IntKind.signed]
  omega
theorem wr64_nn (n : Int) : 0 ≤ IntKind.wrap .u64 n := by
  simp [IntKind.wrap, IntKind.bits, IntKind.signed]
  omega
theorem byteAt_eq {s : ByteArray} {i : Nat} : ((byteAt s i == 32) = true ↔ s.data.toList[i]? = some 32) := by
  unfold byteAt
  have e : s[i]? = s.data.toList[i]? := by
    rw [Array.getElem?_toList]
    by_cases hi : i < s.size
    · rw [getElem?_pos s i hi, getElem?_pos s.data i hi]
      rfl
    · rw [getElem?_neg s i hi, getElem?_neg s.data i hi]
  rw [e]
  cases h : s.data.toList[i]? with
  | none => simp
  | some b =>
    simp only [beq_iff_eq, Option.some.injEq]
    constructor
    · intro h2
      have h3 : b.toNat = 32 := by exact_mod_cast h2
      exact UInt8.toNat_inj.1 h3
    · rintro rfl
      rfl
theorem app_list (a b : ByteArray) : (a ++ b).data.toList = a.data.toList ++ b.data.toList := by
  rw [ByteArray.data_append, Array.toList_append]
theorem app_size (a b : ByteArray) : (a ++ b).size = a.size + b.size := ByteArray.size_append
theorem law_spoilt (z : Bool) (g : List Sym) (e : List D) (s : Stp) (k : Int) : C 5 [iG z g e, iSt s, iI k] = some (iB true, [iG z g e, iSt s, iI k]) := by
  refine wfn (lk := []) rfl rfl (fnW_way (q5 _ _ z (syms g) e s.r s.a s.i s.s s.b s.j s.t s.c.lz (lits s.c.ls) s.c.le s.c.tz (rws s.c.ts) s.c.te s.c.cz (lits s.c.cs) s.c.ce k _) ?_)
  have w := w_swrite z g e s
  refine ⟨_, w_awake, condW_t rfl ?_⟩
  cases h : mayB g s with
  | false =>
    rw [(txt_f h).1, (txt_f h).2] at w
    exact ⟨_, _, _, _, w, _, _, w_errnum _, condW_t rfl ⟨_, _, w_errnum _, condW_t rfl rfl⟩⟩
  | true =>
    rw [(txt_t h).1, (txt_t h).2] at w
    have ht := text_short h
    have h3 := step_size3 s
    have n2 : ∀ t : ByteArray, t.data.toList = 32 :: (textOf (stepNs s)).data.toList → readF g t = none := fun t e => spoilt_ne (by rw [e]; simp [okB]) g
    have n3 : ∀ t : ByteArray, t.data.toList = 48 :: (textOf (stepNs s)).data.toList → readF g t = none := fun t e => nought_ne (stepNs_ne s) e g
    have n4 : ∀ t : ByteArray, t.data.toList = (textOf (stepNs s)).data.toList ++ [32, 48] → readF g t = none := fun t e => more_ne h e g
    have hsz : (textOf (stepNs s)).data.toList.length = (textOf (stepNs s)).size := ba_len _
    generalize textOf (stepNs s) = T at *
    refine ⟨_, _, _, _, w, _, _, w_errnum _, condW_f rfl (condW_f (decide_eq_false (by omega)) ?_)⟩
    have h64 : IntKind.wrap .u64 (T.size : Int) = T.size := wr64 (by omega) (by omega)
    obtain ⟨m, hm, hK⟩ : ∃ m : Nat, m < T.size ∧ IntKind.wrap .i64 (Int.tmod (IntKind.wrap .u64 k) (IntKind.wrap .u64 (T.size : Int))) = (m : Int) := by
      have hk := wr64_nn k
      generalize IntKind.wrap .u64 k = q at hk
      rw [h64]
      have e1 : Int.tmod q (T.size : Int) = q % (T.size : Int) := Int.tmod_eq_emod_of_nonneg hk
      have e2 := Int.emod_lt_of_pos q (show (0 : Int) < T.size by omega)
      have e3 := Int.emod_nonneg q (show (T.size : Int) ≠ 0 by omega)
      refine ⟨(q % (T.size : Int)).toNat, by omega, ?_⟩
      rw [e1, Go.Ab.wr _ (by omega) (by omega)]
      omega
    rw [hK, h64]
    have z1 : (⟨#[32]⟩ : ByteArray).size = 1 := rfl
    have z2 : (⟨#[48]⟩ : ByteArray).size = 1 := rfl
    have z3 : (⟨#[32, 48]⟩ : ByteArray).size = 2 := rfl
    have x1 : (T.extract (Int.toNat 0) (Int.toNat (m : Int))).size = m := by
      rw [ByteArray.size_extract, Int.toNat_natCast]
      show min m T.size - 0 = m
      omega
    have x2 : (T.extract (Int.toNat (m : Int)) (Int.toNat (T.size : Int))).size = T.size - m := by
      rw [ByteArray.size_extract, Int.toNat_natCast, Int.toNat_natCast]
      omega
    have l1 : (T.extract (Int.toNat 0) (Int.toNat (m : Int)) ++ ⟨#[32]⟩ ++ T.extract (Int.toNat (m : Int)) (Int.toNat (T.size : Int))).data.toList = T.data.toList.take m ++ 32 :: T.data.toList.drop m := by
      rw [app_list, app_list, Qu.extract_list, Qu.extract_list, Int.toNat_natCast, Int.toNat_natCast]
      have e1 : (T.data.toList.drop m).take (T.size - m) = T.data.toList.drop m := List.take_of_length_le (by rw [List.length_drop, hsz]; omega)
      rw [e1]
      show List.take (m - 0) (List.drop 0 T.data.toList) ++ [32] ++ _ = _
      rw [Nat.sub_zero, List.drop_zero, List.append_assoc]
      rfl
    have r1 := w_read z g e (t := T.extract (Int.toNat 0) (Int.toNat (m : Int)) ++ ⟨#[32]⟩ ++ T.extract (Int.toNat (m : Int)) (Int.toNat (T.size : Int))) (by rw [app_size, app_size, x1, x2, z1]; omega)
    have r2 := w_read z g e (t := ⟨#[32]⟩ ++ T) (by rw [app_size, z1]; omega)
    have r3 := w_read z g e (t := ⟨#[48]⟩ ++ T) (by rw [app_size, z2]; omega)
    have r4 := w_read z g e (t := T ++ ⟨#[32, 48]⟩) (by rw [app_size, z3]; omega)
    unfold readI at r1 r2 r3 r4
    rw [n2 _ (by rw [app_list]; rfl)] at r2
    rw [n3 _ (by rw [app_list]; rfl)] at r3
    rw [n4 _ (by rw [app_list])] at r4
    unfold noStep at r1 r2 r3 r4
    have k1 : (T.extract (Int.toNat 0) (Int.toNat (m : Int))).size + (⟨#[32]⟩ : ByteArray).size ≤ 9223372036854775807 := by rw [x1, z1]; omega
    have k2 : (T.extract (Int.toNat 0) (Int.toNat (m : Int)) ++ ⟨#[32]⟩).size + (T.extract (Int.toNat (m : Int)) (Int.toNat (T.size : Int))).size ≤ 9223372036854775807 := by rw [app_size, x1, x2, z1]; omega
    have k3 : (⟨#[32]⟩ : ByteArray).size + T.size ≤ 9223372036854775807 := by rw [z1]; omega
    have k4 : (⟨#[48]⟩ : ByteArray).size + T.size ≤ 9223372036854775807 := by rw [z2]; omega
    have k5 : T.size + (⟨#[32, 48]⟩ : ByteArray).size ≤ 9223372036854775807 := by rw [z3]; omega
    have c0 : (0 : Int) ≤ (m : Int) := by omega
    have c1 : (m : Int) ≤ (T.size : Int) := by omega
    have c2 : (m : Int) < (T.size : Int) := by omega
    refine condW_t (by rw [Bool.not_eq_true', beq_eq_false_iff_ne]; omega) (condW_t (decide_eq_true c0) (condW_t (decide_eq_true c1) (condW_t (decide_eq_true k1) (condW_t (decide_eq_true c0) (condW_t (decide_eq_true c1) (condW_t (decide_eq_true k2) ?_))))))
    have bm : ∀ i : Nat, (byteAt T (Int.toNat (i : Int)) == 32) = true ↔ T.data.toList[i]? = some 32 := fun i => by rw [Int.toNat_natCast]; exact byteAt_eq
    by_cases hadj : T.data.toList[m]? = some 32 ∨ m = 0 ∨ (1 ≤ m ∧ T.data.toList[m - 1]? = some 32)
    · have n1 : readF g (T.extract (Int.toNat 0) (Int.toNat (m : Int)) ++ ⟨#[32]⟩ ++ T.extract (Int.toNat (m : Int)) (Int.toNat (T.size : Int))) = none := spoilt_ne (by rw [l1]; exact okB_insert (by rw [hsz]; exact hm) hadj) g
      rw [n1] at r1
      refine .inl ⟨_, _, _, _, _, _, _, _, _, _, r1, condW_t (decide_eq_true k3) (.inl ⟨_, _, _, _, _, _, _, _, _, _, r2, condW_t (decide_eq_true k4) (.inl ⟨_, _, _, _, _, _, _, _, _, _, r3, condW_t (decide_eq_true k5) (.inl ⟨_, _, _, _, _, _, _, _, _, _, r4, condW_t (decide_eq_true c0) (condW_t (decide_eq_true c2) ?_)⟩)⟩)⟩)⟩
      by_cases b1 : T.data.toList[m]? = some 32
      · exact condW_t ((bm m).2 b1) ⟨_, _, w_errnum _, condW_t rfl ⟨_, _, w_errnum _, condW_t rfl ⟨_, _, w_errnum _, condW_t rfl ⟨_, _, w_errnum _, condW_t rfl rfl⟩⟩⟩⟩
      refine condW_f (by rw [← Bool.not_eq_true, bm m]; exact b1) ?_
      by_cases b2 : m = 0
      · exact condW_t (by rw [beq_iff_eq]; omega) ⟨_, _, w_errnum _, condW_t rfl ⟨_, _, w_errnum _, condW_t rfl ⟨_, _, w_errnum _, condW_t rfl ⟨_, _, w_errnum _, condW_t rfl rfl⟩⟩⟩⟩
      have b3 : T.data.toList[m - 1]? = some 32 := by
        rcases hadj with h | h | h
        · exact (b1 h).elim
        · exact (b2 h).elim
        · exact h.2
      have hw : IntKind.wrap .i64 ((m : Int) - 1) = ((m - 1 : Nat) : Int) := by rw [Go.Ab.wr _ (by omega) (by omega)]; omega
      rw [hw]
      exact condW_f (by rw [beq_eq_false_iff_ne]; omega) (condW_t (decide_eq_true (by omega)) (condW_t (decide_eq_true (by omega)) (condW_t ((bm (m - 1)).2 b3) ⟨_, _, w_errnum _, condW_t rfl ⟨_, _, w_errnum _, condW_t rfl ⟨_, _, w_errnum _, condW_t rfl ⟨_, _, w_errnum _, condW_t rfl rfl⟩⟩⟩⟩)))
    · have b1 : ¬ T.data.toList[m]? = some 32 := fun h => hadj (.inl h)
      have b2 : ¬ m = 0 := fun h => hadj (.inr (.inl h))
      have b3 : ¬ T.data.toList[m - 1]? = some 32 := fun h => hadj (.inr (.inr ⟨by omega, h⟩))
      have hw : IntKind.wrap .i64 ((m : Int) - 1) = ((m - 1 : Nat) : Int) := by rw [Go.Ab.wr _ (by omega) (by omega)]; omega
      have f1 : (byteAt T (Int.toNat (m : Int)) == 32) = false := by rw [← Bool.not_eq_true, bm m]; exact b1
      have f2 : ((m : Int) == 0) = false := by rw [beq_eq_false_iff_ne]; omega
      have f3 : (byteAt T (Int.toNat ((m - 1 : Nat) : Int)) == 32) = false := by rw [← Bool.not_eq_true, bm (m - 1)]; exact b3
      have c3 : (0 : Int) ≤ ((m - 1 : Nat) : Int) := by omega
      have c4 : ((m - 1 : Nat) : Int) < (T.size : Int) := by omega
      rw [hw]
      cases hr : readF g (T.extract (Int.toNat 0) (Int.toNat (m : Int)) ++ ⟨#[32]⟩ ++ T.extract (Int.toNat (m : Int)) (Int.toNat (T.size : Int))) with
      | none =>
        rw [hr] at r1
        exact .inl ⟨_, _, _, _, _, _, _, _, _, _, r1, condW_t (decide_eq_true k3) (.inl ⟨_, _, _, _, _, _, _, _, _, _, r2, condW_t (decide_eq_true k4) (.inl ⟨_, _, _, _, _, _, _, _, _, _, r3, condW_t (decide_eq_true k5) (.inl ⟨_, _, _, _, _, _, _, _, _, _, r4, condW_t (decide_eq_true c0) (condW_t (decide_eq_true c2) (condW_f f1 (condW_f f2 (condW_t (decide_eq_true c3) (condW_t (decide_eq_true c4) (condW_f f3 ⟨_, _, w_errnum _, condW_t rfl ⟨_, _, w_errnum _, condW_t rfl ⟨_, _, w_errnum _, condW_t rfl rfl⟩⟩⟩))))))⟩)⟩)⟩)⟩
      | some u =>
        rw [hr] at r1
        exact .inr ⟨_, _, _, _, _, _, _, _, _, _, _, _, _, _, _, _, r1, condW_t (decide_eq_true k3) (.inl ⟨_, _, _, _, _, _, _, _, _, _, r2, condW_t (decide_eq_true k4) (.inl ⟨_, _, _, _, _, _, _, _, _, _, r3, condW_t (decide_eq_true k5) (.inl ⟨_, _, _, _, _, _, _, _, _, _, r4, condW_t (decide_eq_true c0) (condW_t (decide_eq_true c2) (condW_f f1 (condW_f f2 (condW_t (decide_eq_true c3) (condW_t (decide_eq_true c4) (condW_f f3 ⟨_, _, w_errnum _, condW_t rfl ⟨_, _, w_errnum _, condW_t rfl ⟨_, _, w_errnum _, condW_t rfl rfl⟩⟩⟩))))))⟩)⟩)⟩)⟩
theorem call_stepspoilt (y0 y1 y2 : D) (g0 : Go.Ab.Good Tryd.prog 12 22 y0) (g1 : Go.Ab.Good Tryd.prog 12 28 y1) (g2 : Go.Ab.Good Tryd.prog 12 3 y2) : ∃ outs, C 5 [.d y0, .d y1, .d y2] = some (iB true, outs) := by
  obtain ⟨z, g, rfl⟩ := good_sig g0
  obtain ⟨s, rfl, _⟩ := good_step g1
  obtain ⟨n, rfl, _⟩ := good_int g2
  exact ⟨_, law_spoilt z g [] s n⟩
end Go.Proofs.YtjoibdmiolcodaaDoor.Ab
