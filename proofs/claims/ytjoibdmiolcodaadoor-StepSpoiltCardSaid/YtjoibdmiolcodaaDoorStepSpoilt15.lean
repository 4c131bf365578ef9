/- Steps as texts: a step's numbers, their text, what the words of a text read as. Plain; no program in sight, no condition. -/
import Derived.Lib.AtoiTie
import Derived.Lib.SplitLaws
import Derived.Test.YtjoibdmiolcodaaDoorStepSpoilt0
import Derived.Test.YtjoibdmiolcodaaDoorStepSpoilt1
import Derived.Test.YtjoibdmiolcodaaDoorStepSpoilt2
import Derived.Test.YtjoibdmiolcodaaDoorStepSpoilt3
import Derived.Test.YtjoibdmiolcodaaDoorStepSpoilt4
import Derived.Test.YtjoibdmiolcodaaDoorStepSpoilt5
import Derived.Test.YtjoibdmiolcodaaDoorStepSpoilt6
import Derived.Test.YtjoibdmiolcodaaDoorStepSpoilt7
import Derived.Test.YtjoibdmiolcodaaDoorStepSpoilt8
import Derived.Test.YtjoibdmiolcodaaDoorStepSpoilt9
import Derived.Test.YtjoibdmiolcodaaDoorStepSpoilt10
import Derived.Test.YtjoibdmiolcodaaDoorStepSpoilt11
import Derived.Test.YtjoibdmiolcodaaDoorStepSpoilt12
import Derived.Test.YtjoibdmiolcodaaDoorStepSpoilt13
import Derived.Test.YtjoibdmiolcodaaDoorStepSpoilt14
set_option linter.unusedVariables false
set_option linter.unusedSimpArgs false
namespace Go.Qu
open Go Go.Ab

structure Stp where
  r : Int
  a : Int
  i : Int
  s : Int
  b : Int
  j : Int
  t : Int
  c : Cl
abbrev Stp.d (s : Stp) : D := .agg [.int .i64 s.r, .int .i64 s.a, .int .i64 s.i, .int .i64 s.s, .int .i64 s.b, .int .i64 s.j, .int .i64 s.t, .sl 2 s.c.lz (lits s.c.ls) s.c.le, .sl 1 s.c.tz (rws s.c.ts) s.c.te, .sl 2 s.c.cz (lits s.c.cs) s.c.ce]
abbrev iSt (s : Stp) : IV := .d (.agg [.int .i64 s.r, .int .i64 s.a, .int .i64 s.i, .int .i64 s.s, .int .i64 s.b, .int .i64 s.j, .int .i64 s.t, .sl 2 s.c.lz (lits s.c.ls) s.c.le, .sl 1 s.c.tz (rws s.c.ts) s.c.te, .sl 2 s.c.cz (lits s.c.cs) s.c.ce])
def numB (s : Stp) : Bool := decide (0 ≤ s.r ∧ s.r ≤ 7) && (decide (-1 ≤ s.a ∧ s.a ≤ 199) && (decide (-1 ≤ s.b ∧ s.b ≤ 199) && (decide (0 ≤ s.i ∧ s.i ≤ 4) && (decide (0 ≤ s.j ∧ s.j ≤ 4) && (decide (0 ≤ s.s ∧ s.s ≤ 1) && decide (0 ≤ s.t ∧ s.t ≤ 48))))))
def mayB (g : List Sym) (s : Stp) : Bool := numB s && clB g s.c

/-! ### Numbers of a step -/
def litNs (ls : List LitR) : List Int := ls.flatMap fun l => [if l.neg then 1 else 0, (l.r.l.length : Int)] ++ l.r.l
def rowNs (ts : List Row) : List Int := ts.flatMap fun r => [(r.l.length : Int)] ++ r.l
def stepNs (s : Stp) : List Int := [s.r, s.a, s.i, s.s, s.b, s.j, s.t] ++ ([(s.c.ls.length : Int)] ++ litNs s.c.ls ++ ([(s.c.ts.length : Int)] ++ rowNs s.c.ts ++ ([(s.c.cs.length : Int)] ++ litNs s.c.cs)))
def wd (n : Int) : ByteArray := ⟨(Lib.itoa n).toArray⟩
def textOf (ns : List Int) : ByteArray := joinB (ns.map wd) ⟨#[32]⟩

/-! ### Reading -/
def numF : List ByteArray → Bool → Int × List ByteArray × Bool
  | [], _ => (0, [], true)
  | w :: r, b => ((atoiV w).1, r, b || !(atoiV w).2)
def countF (ws : List ByteArray) (b : Bool) : Int × List ByteArray × Bool :=
  if (numF ws b).2.2 = true ∨ (numF ws b).1 < 0 ∨ (((numF ws b).2.1).length : Int) < (numF ws b).1 then (0, (numF ws b).2.1, true) else ((numF ws b).1, (numF ws b).2.1, false)
def codesN : Nat → List ByteArray → Bool → List Int × List ByteArray × Bool
  | 0, ws, b => ([], ws, b)
  | k + 1, ws, b => ((numF ws b).1 :: (codesN k (numF ws b).2.1 (numF ws b).2.2).1, (codesN k (numF ws b).2.1 (numF ws b).2.2).2)
def codesF (ws : List ByteArray) (b : Bool) : List Int × List ByteArray × Bool := codesN (countF ws b).1.toNat (countF ws b).2.1 (countF ws b).2.2
def mkRow (l : List Int) : Row := ⟨l.isEmpty, l, []⟩
def litF (ws : List ByteArray) (b : Bool) : LitR × List ByteArray × Bool :=
  (⟨(numF ws b).1 == 1, mkRow (codesF (numF ws b).2.1 (numF ws b).2.2).1⟩, (codesF (numF ws b).2.1 (numF ws b).2.2).2)
def litsN : Nat → List ByteArray → Bool → List LitR × List ByteArray × Bool
  | 0, ws, b => ([], ws, b)
  | k + 1, ws, b => ((litF ws b).1 :: (litsN k (litF ws b).2.1 (litF ws b).2.2).1, (litsN k (litF ws b).2.1 (litF ws b).2.2).2)
def litsF (ws : List ByteArray) (b : Bool) : List LitR × List ByteArray × Bool := litsN (countF ws b).1.toNat (countF ws b).2.1 (countF ws b).2.2
def tupsN : Nat → List ByteArray → Bool → List Row × List ByteArray × Bool
  | 0, ws, b => ([], ws, b)
  | k + 1, ws, b => (mkRow (codesF ws b).1 :: (tupsN k (codesF ws b).2.1 (codesF ws b).2.2).1, (tupsN k (codesF ws b).2.1 (codesF ws b).2.2).2)
def tupsF (ws : List ByteArray) (b : Bool) : List Row × List ByteArray × Bool := tupsN (countF ws b).1.toNat (countF ws b).2.1 (countF ws b).2.2

/-! ### How long, what is left -/
theorem numF_len (ws : List ByteArray) (b : Bool) : (numF ws b).2.1.length ≤ ws.length := by
  cases ws <;> simp [numF]
theorem countF_len (ws : List ByteArray) (b : Bool) : (countF ws b).2.1.length ≤ ws.length ∧ 0 ≤ (countF ws b).1 ∧ (countF ws b).1 ≤ ws.length := by
  have h := numF_len ws b
  unfold countF
  split
  · exact ⟨h, by simp, by simp⟩
  · rename_i h2
    simp only [not_or, Int.not_lt] at h2
    exact ⟨h, h2.2.1, by omega⟩
theorem codesN_len : ∀ (k : Nat) (ws : List ByteArray) (b : Bool), (codesN k ws b).2.1.length ≤ ws.length ∧ (codesN k ws b).1.length = k
  | 0, ws, b => ⟨Nat.le_refl _, rfl⟩
  | k + 1, ws, b => by
    have h := codesN_len k (numF ws b).2.1 (numF ws b).2.2
    have h2 := numF_len ws b
    simp only [codesN, List.length_cons]
    omega
theorem codesF_len (ws : List ByteArray) (b : Bool) : (codesF ws b).2.1.length ≤ ws.length ∧ (codesF ws b).1.length ≤ ws.length := by
  have h := codesN_len (countF ws b).1.toNat (countF ws b).2.1 (countF ws b).2.2
  have h2 := countF_len ws b
  unfold codesF
  omega
theorem litF_len (ws : List ByteArray) (b : Bool) : (litF ws b).2.1.length ≤ ws.length := by
  have h := codesF_len (numF ws b).2.1 (numF ws b).2.2
  have h2 := numF_len ws b
  unfold litF
  dsimp only
  omega
theorem numF_sub (ws : List ByteArray) (b : Bool) : ∀ w ∈ (numF ws b).2.1, w ∈ ws := by
  cases ws with
  | nil => simp [numF]
  | cons w r => intro x hx; exact List.mem_cons_of_mem _ hx
theorem countF_sub (ws : List ByteArray) (b : Bool) : ∀ w ∈ (countF ws b).2.1, w ∈ ws := by
  unfold countF
  split <;> exact numF_sub ws b
theorem codesN_sub : ∀ (k : Nat) (ws : List ByteArray) (b : Bool), ∀ w ∈ (codesN k ws b).2.1, w ∈ ws
  | 0, ws, b, w, h => h
  | k + 1, ws, b, w, h => numF_sub ws b w (codesN_sub k _ _ w h)
theorem codesF_sub (ws : List ByteArray) (b : Bool) : ∀ w ∈ (codesF ws b).2.1, w ∈ ws := fun w h => countF_sub ws b w (codesN_sub _ _ _ w h)
theorem litF_sub (ws : List ByteArray) (b : Bool) : ∀ w ∈ (litF ws b).2.1, w ∈ ws := fun w h => numF_sub ws b w (codesF_sub _ _ w h)
theorem litsN_sub : ∀ (k : Nat) (ws : List ByteArray) (b : Bool), ∀ w ∈ (litsN k ws b).2.1, w ∈ ws
  | 0, ws, b, w, h => h
  | k + 1, ws, b, w, h => litF_sub ws b w (litsN_sub k _ _ w h)
theorem litsF_sub (ws : List ByteArray) (b : Bool) : ∀ w ∈ (litsF ws b).2.1, w ∈ ws := fun w h => countF_sub ws b w (litsN_sub _ _ _ w h)
theorem tupsN_sub : ∀ (k : Nat) (ws : List ByteArray) (b : Bool), ∀ w ∈ (tupsN k ws b).2.1, w ∈ ws
  | 0, ws, b, w, h => h
  | k + 1, ws, b, w, h => codesF_sub ws b w (tupsN_sub k _ _ w h)
theorem tupsF_sub (ws : List ByteArray) (b : Bool) : ∀ w ∈ (tupsF ws b).2.1, w ∈ ws := fun w h => countF_sub ws b w (tupsN_sub _ _ _ w h)
theorem litsN_len : ∀ (k : Nat) (ws : List ByteArray) (b : Bool), (litsN k ws b).2.1.length ≤ ws.length ∧ (litsN k ws b).1.length = k
  | 0, ws, b => ⟨Nat.le_refl _, rfl⟩
  | k + 1, ws, b => by
    have h := litsN_len k (litF ws b).2.1 (litF ws b).2.2
    have h2 := litF_len ws b
    simp only [litsN, List.length_cons]
    omega
theorem litsF_len (ws : List ByteArray) (b : Bool) : (litsF ws b).2.1.length ≤ ws.length := by
  have h := litsN_len (countF ws b).1.toNat (countF ws b).2.1 (countF ws b).2.2
  have h2 := countF_len ws b
  unfold litsF
  omega
theorem tupsN_len : ∀ (k : Nat) (ws : List ByteArray) (b : Bool), (tupsN k ws b).2.1.length ≤ ws.length ∧ (tupsN k ws b).1.length = k
  | 0, ws, b => ⟨Nat.le_refl _, rfl⟩
  | k + 1, ws, b => by
    have h := tupsN_len k (codesF ws b).2.1 (codesF ws b).2.2
    have h2 := codesF_len ws b
    simp only [tupsN, List.length_cons]
    omega
theorem tupsF_len (ws : List ByteArray) (b : Bool) : (tupsF ws b).2.1.length ≤ ws.length := by
  have h := tupsN_len (countF ws b).1.toNat (countF ws b).2.1 (countF ws b).2.2
  have h2 := countF_len ws b
  unfold tupsF
  omega

/-! ### A whole step -/
def stepF (ws : List ByteArray) : Stp × List ByteArray × Bool :=
  let x1 := numF ws false
  let x2 := numF x1.2.1 x1.2.2
  let x3 := numF x2.2.1 x2.2.2
  let x4 := numF x3.2.1 x3.2.2
  let x5 := numF x4.2.1 x4.2.2
  let x6 := numF x5.2.1 x5.2.2
  let x7 := numF x6.2.1 x6.2.2
  let y1 := litsF x7.2.1 x7.2.2
  let y2 := tupsF y1.2.1 y1.2.2
  let y3 := litsF y2.2.1 y2.2.2
  (⟨x1.1, x2.1, x3.1, x4.1, x5.1, x6.1, x7.1, ⟨y1.1.isEmpty, y1.1, [], y2.1.isEmpty, y2.1, [], y3.1.isEmpty, y3.1, []⟩⟩, y3.2.1, y3.2.2)

/-! ### A number's word -/
theorem digits_byte {n : Nat} (h : n < 10) : (UInt8.ofNat (48 + n)).toNat = 48 + n := by
  simp [UInt8.toNat_ofNat]; omega
def Dig (l : List UInt8) : Prop := l ≠ [] ∧ ∀ c ∈ l, 48 ≤ c.toNat ∧ c.toNat ≤ 57
theorem decDigits_dig : ∀ (n : Nat), Dig (Lib.decDigits n) := by
  intro n
  induction n using Nat.strongRecOn with
  | ind n ih =>
    rw [Lib.decDigits]
    split
    · rename_i h
      refine ⟨by simp, fun c hc => ?_⟩
      simp only [List.mem_singleton] at hc
      subst hc
      rw [digits_byte h]; omega
    · rename_i h
      have h2 := ih (n / 10) (by omega)
      refine ⟨by simp, fun c hc => ?_⟩
      rcases List.mem_append.1 hc with hc | hc
      · exact h2.2 c hc
      · simp only [List.mem_singleton] at hc
        subst hc
        rw [digits_byte (by omega)]; omega
theorem digitVal_of {n : Nat} (h : n < 10) : Lib.digitVal (UInt8.ofNat (48 + n)) = some n := by
  have h2 : ∀ m : Fin 10, Lib.digitVal (UInt8.ofNat (48 + m.val)) = some m.val := by decide +kernel
  exact h2 ⟨n, h⟩
theorem decFrom_append (l m : List UInt8) : ∀ (acc : Nat), Lib.decFrom acc (l ++ m) = (Lib.decFrom acc l).bind fun a => Lib.decFrom a m := by
  induction l with
  | nil => intro acc; rfl
  | cons c l ih =>
    intro acc
    simp only [List.cons_append, Lib.decFrom]
    cases Lib.digitVal c with
    | none => rfl
    | some d => exact ih _
theorem decFrom_dec : ∀ (n : Nat), Lib.decFrom 0 (Lib.decDigits n) = some n := by
  intro n
  induction n using Nat.strongRecOn with
  | ind n ih =>
    rw [Lib.decDigits]
    split
    · rename_i h
      unfold Lib.decFrom
      rw [digitVal_of h]
      unfold Lib.decFrom
      simp
    · rename_i h
      rw [decFrom_append, ih (n / 10) (by omega), Option.bind_some]
      unfold Lib.decFrom
      rw [digitVal_of (show n % 10 < 10 by omega)]
      unfold Lib.decFrom
      simp only [Option.some.injEq]
      omega
theorem decNat_dec (n : Nat) : Lib.decNat (Lib.decDigits n) = some n := by
  have h := decDigits_dig n
  have h2 := decFrom_dec n
  unfold Lib.decNat
  cases hl : Lib.decDigits n with
  | nil => exact (h.1 hl).elim
  | cons c r => rw [hl] at h2; simpa using h2
theorem itoa_len {n : Int} (h1 : -1000000000 < n) (h2 : n < 1000000000) : (Lib.itoa n).length ≤ 10 := by
  have key : ∀ (k m : Nat), m < 10 ^ (k + 1) → (Lib.decDigits m).length ≤ k + 1 := by
    intro k
    induction k with
    | zero => intro m hm; rw [Lib.decDigits, dif_pos (by omega)]; simp
    | succ k ih =>
      intro m hm
      rw [Lib.decDigits]
      split
      · simp
      · have := ih (m / 10) (by rw [Nat.pow_succ] at hm; omega)
        rw [List.length_append, List.length_singleton]
        omega
  unfold Lib.itoa
  split
  · have := key 8 n.natAbs (by omega)
    rw [List.length_cons]
    omega
  · have := key 8 n.toNat (by omega)
    omega
def NumOk (n : Int) : Prop := -1000000000 < n ∧ n < 1000000000
theorem wd_list (n : Int) : (wd n).data.toList = Lib.itoa n := by simp [wd]
theorem wd_size (n : Int) : (wd n).size = (Lib.itoa n).length := by simp [wd, ByteArray.size]
theorem atoi_itoa (n : Int) : Lib.atoi (Lib.itoa n) = some n := by
  unfold Lib.itoa
  split
  · rename_i h
    unfold Lib.atoi
    simp only [beq_self_eq_true, if_true, decNat_dec, Option.map_some, Option.some.injEq]
    omega
  · rename_i h
    have h1 := decDigits_dig n.toNat
    have h2 := decNat_dec n.toNat
    cases hl : Lib.decDigits n.toNat with
    | nil => exact (h1.1 hl).elim
    | cons c r =>
      rw [hl] at h1 h2
      have hc := h1.2 c (by simp)
      have e1 : (c == 45) = false := by
        rw [beq_eq_false_iff_ne]; rintro rfl; have : (45 : UInt8).toNat = 45 := rfl; omega
      have e2 : (c == 43) = false := by
        rw [beq_eq_false_iff_ne]; rintro rfl; have : (43 : UInt8).toNat = 43 := rfl; omega
      unfold Lib.atoi
      simp only [e1, e2, Bool.false_eq_true, if_false, h2, Option.map_some, Option.some.injEq]
      omega
theorem atoiV_wd {n : Int} (h : NumOk n) : atoiV (wd n) = (n, true) := by
  unfold atoiV
  rw [wd_list, Lib.atoiAll_short _ (by have := itoa_len h.1 h.2; omega), atoi_itoa]
  rfl
/-- No blank in a number's word. -/
theorem itoa_noblank (n : Int) : ∀ c ∈ Lib.itoa n, c ≠ 32 := by
  intro c hc
  have key : ∀ m, c ∈ Lib.decDigits m → c ≠ 32 := fun m h => by
    have := (decDigits_dig m).2 c h
    rintro rfl
    have : (32 : UInt8).toNat = 32 := rfl
    omega
  unfold Lib.itoa at hc
  split at hc
  · rcases List.mem_cons.1 hc with rfl | hc
    · decide
    · exact key _ hc
  · exact key _ hc
theorem itoa_ne (n : Int) : Lib.itoa n ≠ [] := by
  unfold Lib.itoa
  split
  · simp
  · exact (decDigits_dig _).1
theorem wd_inj {m n : Int} (h : wd m = wd n) : m = n := by
  have h2 : Lib.itoa m = Lib.itoa n := by rw [← wd_list, h, wd_list]
  have h3 := atoi_itoa m
  rw [h2, atoi_itoa] at h3
  exact (Option.some.inj h3).symm

/-! ### Reading what was written -/
theorem numF_wd {n : Int} (h : NumOk n) (r : List ByteArray) (b : Bool) : numF (wd n :: r) b = (n, r, b) := by
  simp [numF, atoiV_wd h]
theorem countF_wd {n : Nat} (h : NumOk n) {r : List ByteArray} (hr : n ≤ r.length) : countF (wd n :: r) false = ((n : Int), r, false) := by
  unfold countF
  rw [numF_wd h, if_neg]
  simp
  omega
theorem codesN_wd : ∀ (l : List Int) (r : List ByteArray) (b : Bool), (∀ n ∈ l, NumOk n) → codesN l.length (l.map wd ++ r) b = (l, r, b)
  | [], r, b, _ => rfl
  | n :: l, r, b, h => by
    have ih := codesN_wd l r b (fun x hx => h x (List.mem_cons_of_mem _ hx))
    simp only [List.length_cons, List.map_cons, List.cons_append, codesN, numF_wd (h n (by simp)), ih]
theorem codesF_wd {l : List Int} (hl : l.length < 1000000000) (h : ∀ n ∈ l, NumOk n) (r : List ByteArray) : codesF (wd l.length :: (l.map wd ++ r)) false = (l, r, false) := by
  unfold codesF
  rw [countF_wd (by unfold NumOk; omega) (by simp)]
  exact codesN_wd l r false h
def NumsOk (l : List Int) : Prop := l.length < 1000000000 ∧ ∀ n ∈ l, NumOk n
theorem litF_wd {x : LitR} (h : NumsOk x.r.l) (r : List ByteArray) : litF (([if x.neg then 1 else 0, (x.r.l.length : Int)] ++ x.r.l).map wd ++ r) false = (⟨x.neg, mkRow x.r.l⟩, r, false) := by
  have e : ([if x.neg then 1 else 0, (x.r.l.length : Int)] ++ x.r.l).map wd ++ r = wd (if x.neg then 1 else 0) :: (wd x.r.l.length :: (x.r.l.map wd ++ r)) := by simp
  rw [e]
  unfold litF
  rw [numF_wd (by unfold NumOk; split <;> omega)]
  dsimp only
  rw [codesF_wd h.1 h.2]
  cases x.neg <;> rfl
theorem litsN_wd : ∀ (ls : List LitR) (r : List ByteArray), (∀ x ∈ ls, NumsOk x.r.l) → litsN ls.length ((litNs ls).map wd ++ r) false = (ls.map fun x => ⟨x.neg, mkRow x.r.l⟩, r, false)
  | [], r, _ => rfl
  | x :: ls, r, h => by
    have ih := litsN_wd ls r (fun y hy => h y (List.mem_cons_of_mem _ hy))
    have e : (litNs (x :: ls)).map wd ++ r = ([if x.neg then 1 else 0, (x.r.l.length : Int)] ++ x.r.l).map wd ++ ((litNs ls).map wd ++ r) := by
      simp [litNs]
    rw [e, List.length_cons]
    simp only [litsN, litF_wd (h x (by simp)), ih, List.map_cons]
theorem litNs_len (ls : List LitR) : ls.length ≤ (litNs ls).length := by
  induction ls with
  | nil => simp
  | cons x ls ih =>
    have e : litNs (x :: ls) = ([if x.neg then 1 else 0, (x.r.l.length : Int)] ++ x.r.l) ++ litNs ls := rfl
    rw [e]
    simp
    omega
theorem litsF_wd {ls : List LitR} (hn : ls.length < 1000000000) (h : ∀ x ∈ ls, NumsOk x.r.l) (r : List ByteArray) : litsF (([(ls.length : Int)] ++ litNs ls).map wd ++ r) false = (ls.map fun x => ⟨x.neg, mkRow x.r.l⟩, r, false) := by
  have e : ([(ls.length : Int)] ++ litNs ls).map wd ++ r = wd ls.length :: ((litNs ls).map wd ++ r) := by simp
  have := litNs_len ls
  unfold litsF
  rw [e, countF_wd (by unfold NumOk; omega) (by simp; omega)]
  exact litsN_wd ls r h
theorem tupsN_wd : ∀ (ts : List Row) (r : List ByteArray), (∀ x ∈ ts, NumsOk x.l) → tupsN ts.length ((rowNs ts).map wd ++ r) false = (ts.map fun x => mkRow x.l, r, false)
  | [], r, _ => rfl
  | x :: ts, r, h => by
    have ih := tupsN_wd ts r (fun y hy => h y (List.mem_cons_of_mem _ hy))
    have hx := h x (by simp)
    have e : (rowNs (x :: ts)).map wd ++ r = wd x.l.length :: (x.l.map wd ++ ((rowNs ts).map wd ++ r)) := by
      simp [rowNs]
    rw [e, List.length_cons]
    simp only [tupsN, codesF_wd hx.1 hx.2, ih, List.map_cons]
theorem rowNs_len (ts : List Row) : ts.length ≤ (rowNs ts).length := by
  induction ts with
  | nil => simp
  | cons x ts ih =>
    have e : rowNs (x :: ts) = ([(x.l.length : Int)] ++ x.l) ++ rowNs ts := rfl
    rw [e]
    simp
    omega
theorem tupsF_wd {ts : List Row} (hn : ts.length < 1000000000) (h : ∀ x ∈ ts, NumsOk x.l) (r : List ByteArray) : tupsF (([(ts.length : Int)] ++ rowNs ts).map wd ++ r) false = (ts.map fun x => mkRow x.l, r, false) := by
  have e : ([(ts.length : Int)] ++ rowNs ts).map wd ++ r = wd ts.length :: ((rowNs ts).map wd ++ r) := by simp
  have := rowNs_len ts
  unfold tupsF
  rw [e, countF_wd (by unfold NumOk; omega) (by simp; omega)]
  exact tupsN_wd ts r h
/-- What may be written. -/
structure StpOk (x : Stp) : Prop where
  pr : NumOk x.r
  pa : NumOk x.a
  pi : NumOk x.i
  ps : NumOk x.s
  pb : NumOk x.b
  pj : NumOk x.j
  pt : NumOk x.t
  ln : x.c.ls.length < 1000000000
  ls : ∀ y ∈ x.c.ls, NumsOk y.r.l
  tn : x.c.ts.length < 1000000000
  ts : ∀ y ∈ x.c.ts, NumsOk y.l
  cn : x.c.cs.length < 1000000000
  cs : ∀ y ∈ x.c.cs, NumsOk y.r.l
def newC (c : Cl) : Cl := ⟨c.ls.isEmpty, c.ls.map fun x => ⟨x.neg, mkRow x.r.l⟩, [], c.ts.isEmpty, c.ts.map fun x => mkRow x.l, [], c.cs.isEmpty, c.cs.map fun x => ⟨x.neg, mkRow x.r.l⟩, []⟩
def newT (s : Stp) : Stp := { s with c := newC s.c }
theorem stepF_wd {s : Stp} (h : StpOk s) (r : List ByteArray) : stepF ((stepNs s).map wd ++ r) = (newT s, r, false) := by
  have e : (stepNs s).map wd ++ r = wd s.r :: wd s.a :: wd s.i :: wd s.s :: wd s.b :: wd s.j :: wd s.t :: (([(s.c.ls.length : Int)] ++ litNs s.c.ls).map wd ++ (([(s.c.ts.length : Int)] ++ rowNs s.c.ts).map wd ++ (([(s.c.cs.length : Int)] ++ litNs s.c.cs).map wd ++ r))) := by
    simp [stepNs]
  rw [e]
  unfold stepF
  simp only [numF_wd h.pr, numF_wd h.pa, numF_wd h.pi, numF_wd h.ps, numF_wd h.pb, numF_wd h.pj, numF_wd h.pt]
  rw [litsF_wd h.ln h.ls]
  dsimp only
  rw [tupsF_wd h.tn h.ts]
  dsimp only
  rw [litsF_wd h.cn h.cs]
  simp [newT, newC]

/-! ### The words of a text -/
theorem index_ne {b : UInt8} (l : List UInt8) (h : b ≠ 32) : Lib.index (b :: l) [32] = if Lib.index l [32] == -1 then -1 else Lib.index l [32] + 1 := by
  have hp : ([32] : List UInt8).isPrefixOf (b :: l) = false := by simp [List.isPrefixOf, Ne.symm h]
  rw [Lib.index, hp]; simp
theorem index_eq (l : List UInt8) : Lib.index (32 :: l) [32] = 0 := by
  rw [Lib.index]; simp [List.isPrefixOf]
theorem index_none : ∀ (l : List UInt8), (∀ c ∈ l, c ≠ 32) → Lib.index l [32] = -1
  | [], _ => by rw [Lib.index]; simp
  | b :: l, h => by rw [index_ne l (h b (by simp)), index_none l (fun c hc => h c (List.mem_cons_of_mem _ hc))]; rfl
theorem index_some : ∀ (l m : List UInt8), (∀ c ∈ l, c ≠ 32) → Lib.index (l ++ 32 :: m) [32] = l.length
  | [], m, _ => index_eq m
  | b :: l, m, h => by
    have ih := index_some l m (fun c hc => h c (List.mem_cons_of_mem _ hc))
    rw [List.cons_append, index_ne _ (h b (by simp)), ih, if_neg]
    · simp
    · rw [beq_iff_eq]; omega
def blankB : ByteArray := ⟨#[32]⟩
def NoBl (w : ByteArray) : Prop := ∀ c ∈ w.data.toList, c ≠ 32
theorem ba_ext {a b : ByteArray} (h : a.data.toList = b.data.toList) : a = b := by
  obtain ⟨⟨x⟩⟩ := a
  obtain ⟨⟨y⟩⟩ := b
  simp at h
  rw [h]
theorem ba_len (x : ByteArray) : x.data.toList.length = x.size := Array.length_toList
theorem extract_list (s : ByteArray) (a b : Nat) : (s.extract a b).data.toList = (s.data.toList.drop a).take (b - a) := by
  rw [ByteArray.data_extract, Array.toList_extract, List.extract_eq_take_drop]
theorem joinB_list (xs : List ByteArray) : (joinB xs blankB).data.toList = Lib.join (xs.map (·.data.toList)) [32] := by
  simp [joinB, blankB]
theorem splitV_join : ∀ (r : List ByteArray) (x : ByteArray), NoBl x → (∀ w ∈ r, NoBl w) → splitV (joinB (x :: r) blankB) blankB = x :: r
  | [], x, hx, _ => by
    have e : joinB [x] blankB = x := ba_ext (by rw [joinB_list]; simp [Lib.join_one])
    have hi : Lib.indexB x blankB = -1 := index_none _ hx
    unfold splitV
    rw [e, Lib.countB_miss x blankB hi]
    rfl
  | y :: r, x, hx, hr => by
    have ih := splitV_join r y (hr y (by simp)) (fun w hw => hr w (List.mem_cons_of_mem _ hw))
    have e : (joinB (x :: y :: r) blankB).data.toList = x.data.toList ++ 32 :: (joinB (y :: r) blankB).data.toList := by
      rw [joinB_list, joinB_list, List.map_cons, List.map_cons, Lib.join_cons, Lib.join_cons]
      simp [Lib.joinTail]
    have hi : Lib.indexB (joinB (x :: y :: r) blankB) blankB = ((x.size : Nat) : Int) := by
      show Lib.index (joinB (x :: y :: r) blankB).data.toList [32] = _
      rw [e, index_some _ _ hx, ba_len]
    have hs : (joinB (x :: y :: r) blankB).size = x.size + 1 + (joinB (y :: r) blankB).size := by
      have := congrArg List.length e
      rw [List.length_append, List.length_cons, ba_len, ba_len, ba_len] at this
      omega
    have e1 : (joinB (x :: y :: r) blankB).extract 0 (x.size + 0) = x := ba_ext (by
      rw [extract_list, e, List.drop_zero, Nat.add_zero, Nat.sub_zero, ← ba_len x, List.take_left])
    have e2 : (joinB (x :: y :: r) blankB).extract (x.size + blankB.size) (joinB (x :: y :: r) blankB).size = joinB (y :: r) blankB := ba_ext (by
      rw [extract_list, e, hs]
      have h1 : x.size = x.data.toList.length := (ba_len x).symm
      have h2 : blankB.size = 1 := rfl
      have h3 : (joinB (y :: r) blankB).size = (joinB (y :: r) blankB).data.toList.length := (ba_len _).symm
      rw [h2, h1, h3, List.drop_append, List.drop_of_length_le (by omega), List.nil_append, show x.data.toList.length + 1 - x.data.toList.length = 1 by omega]
      simp only [List.drop_succ_cons, List.drop_zero]
      rw [List.take_of_length_le (by omega)])
    unfold splitV
    rw [Lib.countB_hit _ blankB x.size (by decide) hi, e2, Nat.add_comm, Lib.splitB_hit blankB 0 _ _ x.size hi, e1, e2]
    unfold splitV at ih
    rw [ih]
theorem noBl_wd (n : Int) : NoBl (wd n) := fun c hc => itoa_noblank n c (by rwa [wd_list] at hc)
theorem split_text {ns : List Int} (h : ns ≠ []) : splitV (textOf ns) blankB = ns.map wd := by
  cases ns with
  | nil => exact (h rfl).elim
  | cons n ns => exact splitV_join (ns.map wd) (wd n) (noBl_wd n) (fun w hw => by obtain ⟨m, _, rfl⟩ := List.mem_map.1 hw; exact noBl_wd m)
theorem stepNs_ne (s : Stp) : stepNs s ≠ [] := by simp [stepNs]
theorem textOf_inj {a b : List Int} (ha : a ≠ []) (hb : b ≠ []) (h : textOf a = textOf b) : a = b := by
  have h1 := split_text ha
  rw [h, split_text hb] at h1
  have key : ∀ (x y : List Int), x.map wd = y.map wd → x = y := by
    intro x
    induction x with
    | nil => intro y h; cases y with
      | nil => rfl
      | cons _ _ => simp at h
    | cons c x ih =>
      intro y h
      cases y with
      | nil => simp at h
      | cons d y =>
        simp only [List.map_cons, List.cons.injEq] at h
        rw [wd_inj h.1, ih y h.2]
  exact (key _ _ h1).symm
/-- What a step's text reads as. -/
theorem read_text {s : Stp} (h : StpOk s) : stepF (splitV (textOf (stepNs s)) blankB) = (newT s, [], false) := by
  rw [split_text (stepNs_ne s)]
  have := stepF_wd h []
  rwa [List.append_nil] at this
/-- How long the text is. -/
theorem textOf_size : ∀ (ns : List Int), (∀ n ∈ ns, NumOk n) → (textOf ns).size ≤ 11 * ns.length
  | [], _ => by decide
  | [n], h => by
    have e : textOf [n] = wd n := ba_ext (by unfold textOf; rw [show (⟨#[32]⟩ : ByteArray) = blankB from rfl, joinB_list]; simp [Lib.join_one])
    have h1 := h n (by simp)
    have := itoa_len h1.1 h1.2
    rw [e, wd_size]
    simp
    omega
  | n :: m :: ns, h => by
    have ih := textOf_size (m :: ns) (fun x hx => h x (List.mem_cons_of_mem _ hx))
    have h1 := h n (by simp)
    have h2 := itoa_len h1.1 h1.2
    have e : (textOf (n :: m :: ns)).data.toList = (wd n).data.toList ++ 32 :: (textOf (m :: ns)).data.toList := by
      unfold textOf
      rw [show (⟨#[32]⟩ : ByteArray) = blankB from rfl, joinB_list, joinB_list, List.map_cons, List.map_cons, List.map_cons, List.map_cons, Lib.join_cons, Lib.join_cons]
      simp [Lib.joinTail]
    have h3 := congrArg List.length e
    rw [wd_list] at h3
    rw [ba_len, List.length_append, List.length_cons, ba_len] at h3
    simp only [List.length_cons] at ih ⊢
    omega
end Go.Qu

/- Steps: may one be, its text. For every input; no condition. -/
set_option linter.unusedVariables false
set_option linter.unusedSimpArgs false
set_option maxRecDepth 100000
namespace Go.Proofs.YtjoibdmiolcodaaDoor.Ab
open Go Go.Ab Go.Qu Go.Proofs
attribute [local simp] and_assoc
theorem w_within (n a b : Int) : C 25 [iI n, iI a, iI b] = some (iB (decide (a ≤ n ∧ n ≤ b)), [iI n, iI a, iI b]) := by
  refine wfn (lk := []) rfl rfl (fnW_way (q25 _ _ n a b _) ?_)
  by_cases h1 : a ≤ n
  · by_cases h2 : n ≤ b <;> simp [h1, h2]
  · simp [h1]
theorem w_numbersmay (s : Stp) : C 15 [iSt s] = some (iB (numB s), [iSt s]) := by
  refine wfn (lk := []) rfl rfl (fnW_way (q15 _ _ s.r s.a s.i s.s s.b s.j s.t s.c.lz (lits s.c.ls) s.c.le s.c.tz (rws s.c.ts) s.c.te s.c.cz (lits s.c.cs) s.c.ce _) ?_)
  unfold numB
  by_cases h1 : 0 ≤ s.r ∧ s.r ≤ 7
  rotate_left
  · simp [w_within, h1]
  by_cases h2 : -1 ≤ s.a ∧ s.a ≤ 199
  rotate_left
  · simp [w_within, h1, h2]
  by_cases h3 : -1 ≤ s.b ∧ s.b ≤ 199
  rotate_left
  · simp [w_within, h1, h2, h3]
  by_cases h4 : 0 ≤ s.i ∧ s.i ≤ 4
  rotate_left
  · simp [w_within, h1, h2, h3, h4]
  by_cases h5 : 0 ≤ s.j ∧ s.j ≤ 4
  rotate_left
  · simp [w_within, h1, h2, h3, h4, h5]
  by_cases h6 : 0 ≤ s.s ∧ s.s ≤ 1
  rotate_left
  · simp [w_within, h1, h2, h3, h4, h5, h6]
  by_cases h7 : 0 ≤ s.t ∧ s.t ≤ 48
  · simp [w_within, h1, h2, h3, h4, h5, h6, h7]
  · simp [w_within, h1, h2, h3, h4, h5, h6, h7]
theorem w_stepmay (z : Bool) (g : List Sym) (e : List D) (s : Stp) : C 10 [iG z g e, iSt s] = some (iB (mayB g s), [iG z g e, iSt s]) := by
  refine wfn (lk := []) rfl rfl (fnW_way (q10 _ _ z (syms g) e s.r s.a s.i s.s s.b s.j s.t s.c.lz (lits s.c.ls) s.c.le s.c.tz (rws s.c.ts) s.c.te s.c.cz (lits s.c.cs) s.c.ce _) ?_)
  unfold mayB
  refine ⟨_, _, w_numbersmay s, ?_⟩
  cases hn : numB s with
  | false => simp
  | true =>
    rw [condW_tt]
    refine ⟨_, _, _, w_clmay z g e s.c, ?_⟩
    cases clB g s.c <;> simp
theorem w_errnum (n : Int) : C 9 [iI n] = some (iI n, [iI n]) := by
  exact wfn (lk := []) rfl rfl (fnW_way (q9 _ _ n _) (by simp))
theorem w_samestep {s : Stp} (h : ClIn s.c) (u : Stp) : C 12 [iSt s, iSt u] = some (iB (decide (([s.r, s.a, s.i, s.s, s.b, s.j, s.t], clKey s.c) = ([u.r, u.a, u.i, u.s, u.b, u.j, u.t], clKey u.c))), [iSt s, iSt u]) := by
  refine wfn (lk := []) rfl rfl (fnW_way (q12 _ _ s.r s.a s.i s.s s.b s.j s.t s.c.lz (lits s.c.ls) s.c.le s.c.tz (rws s.c.ts) s.c.te s.c.cz (lits s.c.cs) s.c.ce u.r u.a u.i u.s u.b u.j u.t u.c.lz (lits u.c.ls) u.c.le u.c.tz (rws u.c.ts) u.c.te u.c.cz (lits u.c.cs) u.c.ce _) ?_)
  by_cases h1 : s.r = u.r
  rotate_left
  · simp [h1]
  by_cases h2 : s.a = u.a
  rotate_left
  · simp [h1, h2]
  by_cases h3 : s.i = u.i
  rotate_left
  · simp [h1, h2, h3]
  by_cases h4 : s.s = u.s
  rotate_left
  · simp [h1, h2, h3, h4]
  by_cases h5 : s.b = u.b
  rotate_left
  · simp [h1, h2, h3, h4, h5]
  by_cases h6 : s.j = u.j
  rotate_left
  · simp [h1, h2, h3, h4, h5, h6]
  by_cases h7 : s.t = u.t
  rotate_left
  · simp [h1, h2, h3, h4, h5, h6, h7]
  have hc := w_sameclause h u.c
  by_cases h8 : clKey s.c = clKey u.c
  · simp [h1, h2, h3, h4, h5, h6, h7, hc, h8]
  · simp [h1, h2, h3, h4, h5, h6, h7, hc, h8]
/-! ### The text -/
theorem w_itoa {n : Int} (h : NumOk n) : C 23 [iI n] = some (.d (.str (wd n)), [iI n]) := by
  refine W_prim (p := itoaP) (by rfl) ?_
  unfold itoaP
  unfold NumOk at h
  dsimp only
  rw [if_pos (by omega)]
  rfl
theorem litNs_snoc (ls : List LitR) (l : LitR) : litNs (ls ++ [l]) = litNs ls ++ ([if l.neg then 1 else 0, (l.r.l.length : Int)] ++ l.r.l) := by simp [litNs]
theorem rowNs_snoc (ls : List Row) (l : Row) : rowNs (ls ++ [l]) = rowNs ls ++ ([(l.l.length : Int)] ++ l.l) := by simp [rowNs]
theorem litNs_take (ls : List LitR) (i : Nat) : (litNs (ls.take i)).length ≤ (litNs ls).length := by
  have e : litNs ls = litNs (ls.take i) ++ litNs (ls.drop i) := by
    unfold litNs
    rw [← List.flatMap_append, List.take_append_drop]
  rw [e]; simp
theorem rowNs_take (ls : List Row) (i : Nat) : (rowNs (ls.take i)).length ≤ (rowNs ls).length := by
  have e : rowNs ls = rowNs (ls.take i) ++ rowNs (ls.drop i) := by
    unfold rowNs
    rw [← List.flatMap_append, List.take_append_drop]
  rw [e]; simp
theorem w_slits (z : Bool) (xs : List Int) {ls : List LitR} (hn : xs.length + 1 + (litNs ls).length ≤ 1000000) (z' : Bool) (e : List D) : C 22 [.own z 3 1 (ints xs), iL z' ls e] = some (.own false 3 1 (ints (xs ++ ([(ls.length : Int)] ++ litNs ls))), [.dead, iL z' ls e]) := by
  refine wfn (lk := []) rfl rfl (fnW_way (q22 _ _ z (ints xs) z' (lits ls) e _) ?_)
  have hl := litNs_len ls
  have h1 := blk_fun (F := F) (d := d22) (lk := []) (p := [1,1,0,1,0,0]) (p0 := [1,1,0,1]) (id := 0) (by kernel_rfl) (st := fun (i : Nat) => [(0, .own false 3 1 (ints (xs ++ ([(ls.length : Int)] ++ litNs (ls.take i))))), (13, iL z' ls e), (14, iI ls.length), (15, iI i)]) (I := fun i => i ≤ ls.length) (μ := fun i => ls.length - i)
    (res := fun _ => .norm [(0, .own false 3 1 (ints (xs ++ ([(ls.length : Int)] ++ litNs ls)))), (13, iL z' ls e), (14, iI ls.length), (15, iI ls.length)])
    (fun i hi => by
      by_cases h : i < ls.length
      · obtain ⟨l, hl1⟩ := at_lt h
        have e1 : ls.take (i + 1) = ls.take i ++ [l] := by rw [List.take_add_one, hl1]; rfl
        have hb := litNs_take ls (i + 1)
        rw [e1, litNs_snoc] at hb
        simp only [List.length_append, List.length_cons, List.length_nil] at hb
        refine .go (i + 1) (wpQ_way (q22_l0a _ _ false (ints (xs ++ ([(ls.length : Int)] ++ litNs (ls.take i)))) z' (lits ls) e ls.length i _) ?_) h (by omega) rfl
        have g0 : ((i : Int) < ls.length) := by omega
        have g1 : ((xs ++ ([(ls.length : Int)] ++ litNs (ls.take i))).length : Nat) + l.r.l.length + 2 ≤ 1000000 := by
          simp only [List.length_append, List.length_cons, List.length_nil]
          omega
        generalize hA : xs ++ ([(ls.length : Int)] ++ litNs (ls.take i)) = A at g1 ⊢
        have e2 : xs ++ ([(ls.length : Int)] ++ litNs (ls.take (i + 1))) = A ++ ([if l.neg then 1 else 0, (l.r.l.length : Int)] ++ l.r.l) := by
          rw [e1, litNs_snoc, ← hA]; simp
        rw [e2]
        have k1 : (A.length : Int) + (0 + 1 + 1) ≤ 9223372036854775807 := by omega
        have k2 : ((A.length : Int) + (0 + 1 + 1)) * 8 ≤ 140737488355328 := by omega
        have k3 : A.length + 1 + 1 + l.r.l.length ≤ 9223372036854775807 := by omega
        have k4 : (A.length + 1 + 1 + l.r.l.length) * 8 ≤ 140737488355328 := by omega
        have k5 : A.length + (0 + 1 + 1) ≤ 9223372036854775807 := by omega
        have k6 : (A.length + (0 + 1 + 1)) * 8 ≤ 140737488355328 := by omega
        cases hneg : l.neg <;> simp [-getElem?_pos, g0, lits_len, lits_at hl1, hneg, ints_len, ints, k1, k2, k3, k4, k5, k6, wr1 h (by omega)] <;> omega
      · have e1 : i = ls.length := by omega
        subst e1
        refine .stop (.exit 0 [(0, .own false 3 1 (ints (xs ++ ([(ls.length : Int)] ++ litNs ls)))), (13, iL z' ls e), (14, iI ls.length), (15, iI ls.length)]) (wpQ_way (q22_l0a _ _ false (ints (xs ++ ([(ls.length : Int)] ++ litNs (ls.take ls.length)))) z' (lits ls) e ls.length ls.length _) ?_) rfl rfl
        simp [List.take_length]) 0 (Nat.zero_le _)
  have k1 : (ints xs).length + (0 + 1) ≤ 9223372036854775807 := by rw [ints_len]; omega
  have k2 : ((ints xs).length + (0 + 1)) * 8 ≤ 140737488355328 := by rw [ints_len]; omega
  rw [condW_d, if_pos k1, condW_d, if_pos k2]
  have e3 : ints (xs ++ ([(ls.length : Int)] ++ litNs (ls.take 0))) = ints xs ++ [.int .i64 ((lits ls).length : Nat)] := by
    simp [litNs, ints, lits_len]
  rw [e3] at h1
  rw [lits_len] at h1
  rw [Bool.and_false, lits_len]
  exact ⟨_, _, _, _, _, _, _, h1, rfl⟩
end Go.Proofs.YtjoibdmiolcodaaDoor.Ab

/- Steps: reading the words of a text. For every input; no condition. -/
set_option linter.unusedVariables false
set_option linter.unusedSimpArgs false
set_option maxRecDepth 100000
namespace Go.Proofs.YtjoibdmiolcodaaDoor.Ab
open Go Go.Ab Go.Qu Go.Proofs
attribute [local simp] and_assoc
/-- The reader: the words that are left, is it bad? -/
abbrev iRd (ws : List ByteArray) (b : Bool) : IV := .dbox 53 0 [.sl 1 false (ws.map .str) [], .bool b]
def WsOk (ws : List ByteArray) : Prop := ws.length ≤ 4294967296 ∧ ∀ w ∈ ws, w.size ≤ 281474976710656
theorem WsOk.sub {ws ws' : List ByteArray} (h : WsOk ws) (h1 : ws'.length ≤ ws.length) (h2 : ∀ w ∈ ws', w ∈ ws) : WsOk ws' := ⟨by have := h.1; omega, fun w hw => h.2 w (h2 w hw)⟩
theorem w_atoi {s : ByteArray} (h : s.size ≤ 281474976710656) : C 30 [.d (.str s)] = some (.tup [iI (atoiV s).1, .d (.ifc (atoiV s).2)], [.d (.str s)]) := by
  refine W_prim (p := atoiP) (by rfl) ?_
  unfold atoiP
  dsimp only
  rw [if_pos h]
theorem w_rnum {ws : List ByteArray} (h : WsOk ws) (b : Bool) : C 18 [iRd ws b] = some (iI (numF ws b).1, [iRd (numF ws b).2.1 (numF ws b).2.2]) := by
  refine wfn (lk := [0]) rfl rfl (fnW_way (q18 _ _ false (ws.map .str) [] b _) ?_)
  cases ws with
  | nil => simp [numF]
  | cons w r =>
    have hw := w_atoi (h.2 w (by simp))
    have k1 : ¬ ((r.length : Int) + 1 == 0) = true := by rw [beq_iff_eq]; omega
    have k2 : (1 : Int) ≤ (r.length : Int) + 1 := by omega
    have k3 : ¬ ((r.length : Int) + 1 = 0) := by omega
    have k4 : ¬ (r.length + 1 = 0) := by omega
    cases b <;> cases hv : (atoiV w).2 <;> simp [numF, hw, k1, k2, k3, k4, hv]
theorem w_count {ws : List ByteArray} (h : WsOk ws) (b : Bool) : C 31 [iRd ws b] = some (iI (countF ws b).1, [iRd (countF ws b).2.1 (countF ws b).2.2]) := by
  refine wfn (lk := [0]) rfl rfl (fnW_way (q31 _ _ false (ws.map .str) [] b _) ?_)
  refine ⟨_, _, _, _, _, w_rnum h b, ?_⟩
  unfold countF
  cases hb : (numF ws b).2.2 with
  | true => simp
  | false =>
    by_cases h1 : (numF ws b).1 < 0
    · simp [h1]
    · by_cases h2 : ((numF ws b).2.1.length : Int) < (numF ws b).1
      · simp [h1, h2]
      · simp [h1, h2]
theorem w_codes {ws : List ByteArray} (h : WsOk ws) (b : Bool) : C 32 [iRd ws b] = some (.own (codesF ws b).1.isEmpty 3 1 (ints (codesF ws b).1), [iRd (codesF ws b).2.1 (codesF ws b).2.2]) := by
  refine wfn (lk := [0]) rfl rfl (fnW_way (q32 _ _ false (ws.map .str) [] b _) ?_)
  refine ⟨_, _, _, _, _, w_count h b, ?_⟩
  have hc := countF_len ws b
  have hcs := countF_sub ws b
  unfold codesF
  generalize countF ws b = x at hc hcs ⊢
  obtain ⟨n, ws0, b0⟩ := x
  dsimp only at hc hcs ⊢
  obtain ⟨m, rfl⟩ : ∃ m : Nat, n = (m : Int) := ⟨n.toNat, by omega⟩
  have hm : m ≤ 4294967296 := by have := h.1; omega
  have hw0 : WsOk ws0 := h.sub hc.1 hcs
  have h1 := blk_fun (F := F) (d := d32) (lk := [0]) (p := [1,1,0,1,0,0]) (p0 := [1,1,0,1]) (id := 0) (by kernel_rfl) (st := fun (x : List Int × List ByteArray × Bool) => [(0, iRd x.2.1 x.2.2), (3, .own x.1.isEmpty 3 1 (ints x.1)), (5, iI m), (6, iI x.1.length)]) (I := fun x => x.1.length ≤ m ∧ WsOk x.2.1) (μ := fun x => m - x.1.length)
    (res := fun x => .norm [(0, iRd (codesN (m - x.1.length) x.2.1 x.2.2).2.1 (codesN (m - x.1.length) x.2.1 x.2.2).2.2), (3, .own (x.1 ++ (codesN (m - x.1.length) x.2.1 x.2.2).1).isEmpty 3 1 (ints (x.1 ++ (codesN (m - x.1.length) x.2.1 x.2.2).1))), (5, iI m), (6, iI m)])
    (fun x hx => by
      obtain ⟨xs, vs, c⟩ := x
      obtain ⟨hx1, hx2⟩ := hx
      dsimp only at hx1 hx2 ⊢
      by_cases hlt : xs.length < m
      · refine .go (xs ++ [(numF vs c).1], (numF vs c).2.1, (numF vs c).2.2) (wpQ_way (q32_l0a _ _ false (vs.map .str) [] c xs.isEmpty (ints xs) m xs.length _) ?_) ⟨by simp; omega, hx2.sub (numF_len vs c) (numF_sub vs c)⟩ (by simp; omega) ?_
        · have k0 : ((xs.length : Nat) : Int) < (m : Int) := by omega
          have k1 : xs.length + 1 ≤ 9223372036854775807 := by omega
          have k2 : (xs.length + 1) * 8 ≤ 140737488355328 := by omega
          have k3 := wr1 (i := xs.length) (n := m) hlt (by omega)
          simp [k0, w_rnum hx2, ints_len, k1, k2, k3, ints]
        · have e1 : m - xs.length = (m - (xs.length + 1)) + 1 := by omega
          dsimp only
          rw [List.length_append, List.length_singleton, e1]
          simp only [codesN, List.append_assoc, List.singleton_append]
      · have e1 : m = xs.length := by omega
        subst e1
        refine .stop (.exit 0 [(0, iRd vs c), (3, .own xs.isEmpty 3 1 (ints xs)), (5, iI xs.length), (6, iI xs.length)]) (wpQ_way (q32_l0a _ _ false (vs.map .str) [] c xs.isEmpty (ints xs) xs.length xs.length _) ?_) rfl ?_
        · simp
        · simp [codesN, blkO]) ([], ws0, b0) ⟨Nat.zero_le _, hw0⟩
  simp only [List.length_nil, Nat.sub_zero, List.nil_append] at h1
  rw [Int.toNat_natCast]
  exact ⟨_, _, _, _, _, _, _, _, h1, rfl⟩
theorem w_rlits {ws : List ByteArray} (h : WsOk ws) (b : Bool) : C 19 [iRd ws b] = some (.own (litsF ws b).1.isEmpty 44 2 (lits (litsF ws b).1), [iRd (litsF ws b).2.1 (litsF ws b).2.2]) := by
  refine wfn (lk := [0]) rfl rfl (fnW_way (q19 _ _ false (ws.map .str) [] b _) ?_)
  refine ⟨_, _, _, _, _, w_count h b, ?_⟩
  have hc := countF_len ws b
  have hcs := countF_sub ws b
  unfold litsF
  generalize countF ws b = x at hc hcs ⊢
  obtain ⟨n, ws0, b0⟩ := x
  dsimp only at hc hcs ⊢
  obtain ⟨m, rfl⟩ : ∃ m : Nat, n = (m : Int) := ⟨n.toNat, by omega⟩
  have hm : m ≤ 4294967296 := by have := h.1; omega
  have hw0 : WsOk ws0 := h.sub hc.1 hcs
  have h1 := blk_fun (F := F) (d := d19) (lk := [0]) (p := [1,1,0,1,0,0]) (p0 := [1,1,0,1]) (id := 0) (by kernel_rfl) (st := fun (x : List LitR × List ByteArray × Bool) => [(0, iRd x.2.1 x.2.2), (3, .own x.1.isEmpty 44 2 (lits x.1)), (6, iI m), (7, iI x.1.length)]) (I := fun x => x.1.length ≤ m ∧ WsOk x.2.1) (μ := fun x => m - x.1.length)
    (res := fun x => .norm [(0, iRd (litsN (m - x.1.length) x.2.1 x.2.2).2.1 (litsN (m - x.1.length) x.2.1 x.2.2).2.2), (3, .own (x.1 ++ (litsN (m - x.1.length) x.2.1 x.2.2).1).isEmpty 44 2 (lits (x.1 ++ (litsN (m - x.1.length) x.2.1 x.2.2).1))), (6, iI m), (7, iI m)])
    (fun x hx => by
      obtain ⟨xs, vs, c⟩ := x
      obtain ⟨hx1, hx2⟩ := hx
      dsimp only at hx1 hx2 ⊢
      by_cases hlt : xs.length < m
      · refine .go (xs ++ [(litF vs c).1], (litF vs c).2.1, (litF vs c).2.2) (wpQ_way (q19_l0a _ _ false (vs.map .str) [] c xs.isEmpty (lits xs) m xs.length _) ?_) ⟨by simp; omega, hx2.sub (litF_len vs c) (litF_sub vs c)⟩ (by simp; omega) ?_
        · have k0 : ((xs.length : Nat) : Int) < (m : Int) := by omega
          have k1 : xs.length + 1 ≤ 9223372036854775807 := by omega
          have k2 : (xs.length + 1) * 32 ≤ 140737488355328 := by omega
          have k3 := wr1 (i := xs.length) (n := m) hlt (by omega)
          have k4 := w_codes (hx2.sub (numF_len vs c) (numF_sub vs c)) (numF vs c).2.2
          have k5 : lits (xs ++ [(litF vs c).1]) = lits xs ++ [.agg [.bool ((numF vs c).1 == 1), .sl 1 (codesF (numF vs c).2.1 (numF vs c).2.2).1.isEmpty (ints (codesF (numF vs c).2.1 (numF vs c).2.2).1) []]] := by
            simp [lits, litF, LitR.d, mkRow]
          rw [k5]
          rw [condW_d, if_pos k0]
          refine ⟨_, _, _, _, _, w_rnum hx2 c, ?_⟩
          cases hn : (numF vs c).1 == 1 with
          | true =>
            rw [condW_tt]
            refine ⟨_, _, _, _, _, _, k4, ?_⟩
            simp [lits_len, k1, k2, k3, litF]
          | false =>
            rw [condW_ff]
            refine ⟨_, _, _, _, _, _, k4, ?_⟩
            simp [lits_len, k1, k2, k3, litF]
        · have e1 : m - xs.length = (m - (xs.length + 1)) + 1 := by omega
          dsimp only
          rw [List.length_append, List.length_singleton, e1]
          simp only [litsN, List.append_assoc, List.singleton_append]
      · have e1 : m = xs.length := by omega
        subst e1
        refine .stop (.exit 0 [(0, iRd vs c), (3, .own xs.isEmpty 44 2 (lits xs)), (6, iI xs.length), (7, iI xs.length)]) (wpQ_way (q19_l0a _ _ false (vs.map .str) [] c xs.isEmpty (lits xs) xs.length xs.length _) ?_) rfl ?_
        · simp
        · simp [litsN, blkO]) ([], ws0, b0) ⟨Nat.zero_le _, hw0⟩
  simp only [List.length_nil, Nat.sub_zero, List.nil_append] at h1
  rw [Int.toNat_natCast]
  exact ⟨_, _, _, _, _, _, _, _, h1, rfl⟩
theorem w_tuples {ws : List ByteArray} (h : WsOk ws) (b : Bool) : C 20 [iRd ws b] = some (.own (tupsF ws b).1.isEmpty 42 1 (rws (tupsF ws b).1), [iRd (tupsF ws b).2.1 (tupsF ws b).2.2]) := by
  refine wfn (lk := [0]) rfl rfl (fnW_way (q20 _ _ false (ws.map .str) [] b _) ?_)
  refine ⟨_, _, _, _, _, w_count h b, ?_⟩
  have hc := countF_len ws b
  have hcs := countF_sub ws b
  unfold tupsF
  generalize countF ws b = x at hc hcs ⊢
  obtain ⟨n, ws0, b0⟩ := x
  dsimp only at hc hcs ⊢
  obtain ⟨m, rfl⟩ : ∃ m : Nat, n = (m : Int) := ⟨n.toNat, by omega⟩
  have hm : m ≤ 4294967296 := by have := h.1; omega
  have hw0 : WsOk ws0 := h.sub hc.1 hcs
  have h1 := blk_fun (F := F) (d := d20) (lk := [0]) (p := [1,1,0,1,0,0]) (p0 := [1,1,0,1]) (id := 0) (by kernel_rfl) (st := fun (x : List Row × List ByteArray × Bool) => [(0, iRd x.2.1 x.2.2), (3, .own x.1.isEmpty 42 1 (rws x.1)), (5, iI m), (6, iI x.1.length)]) (I := fun x => x.1.length ≤ m ∧ WsOk x.2.1) (μ := fun x => m - x.1.length)
    (res := fun x => .norm [(0, iRd (tupsN (m - x.1.length) x.2.1 x.2.2).2.1 (tupsN (m - x.1.length) x.2.1 x.2.2).2.2), (3, .own (x.1 ++ (tupsN (m - x.1.length) x.2.1 x.2.2).1).isEmpty 42 1 (rws (x.1 ++ (tupsN (m - x.1.length) x.2.1 x.2.2).1))), (5, iI m), (6, iI m)])
    (fun x hx => by
      obtain ⟨xs, vs, c⟩ := x
      obtain ⟨hx1, hx2⟩ := hx
      dsimp only at hx1 hx2 ⊢
      by_cases hlt : xs.length < m
      · refine .go (xs ++ [mkRow (codesF vs c).1], (codesF vs c).2.1, (codesF vs c).2.2) (wpQ_way (q20_l0a _ _ false (vs.map .str) [] c xs.isEmpty (rws xs) m xs.length _) ?_) ⟨by simp; omega, hx2.sub (codesF_len vs c).1 (codesF_sub vs c)⟩ (by simp; omega) ?_
        · have k0 : ((xs.length : Nat) : Int) < (m : Int) := by omega
          have k1 : xs.length + 1 ≤ 9223372036854775807 := by omega
          have k2 : (xs.length + 1) * 24 ≤ 140737488355328 := by omega
          have k3 := wr1 (i := xs.length) (n := m) hlt (by omega)
          have k5 : rws (xs ++ [mkRow (codesF vs c).1]) = rws xs ++ [.sl 1 (codesF vs c).1.isEmpty (ints (codesF vs c).1) []] := by
            simp [rws, Row.d, mkRow]
          rw [k5]
          simp [k0, w_codes hx2, rws_len, k1, k2, k3]
        · have e1 : m - xs.length = (m - (xs.length + 1)) + 1 := by omega
          dsimp only
          rw [List.length_append, List.length_singleton, e1]
          simp only [tupsN, List.append_assoc, List.singleton_append]
      · have e1 : m = xs.length := by omega
        subst e1
        refine .stop (.exit 0 [(0, iRd vs c), (3, .own xs.isEmpty 42 1 (rws xs)), (5, iI xs.length), (6, iI xs.length)]) (wpQ_way (q20_l0a _ _ false (vs.map .str) [] c xs.isEmpty (rws xs) xs.length xs.length _) ?_) rfl ?_
        · simp
        · simp [tupsN, blkO]) ([], ws0, b0) ⟨Nat.zero_le _, hw0⟩
  simp only [List.length_nil, Nat.sub_zero, List.nil_append] at h1
  rw [Int.toNat_natCast]
  exact ⟨_, _, _, _, _, _, _, _, h1, rfl⟩
end Go.Proofs.YtjoibdmiolcodaaDoor.Ab

/- Steps: the text of one that may be; a text's step. For every input; no condition. -/
set_option linter.unusedVariables false
set_option linter.unusedSimpArgs false
set_option maxRecDepth 100000
namespace Go.Proofs.YtjoibdmiolcodaaDoor.Ab
open Go Go.Ab Go.Qu Go.Proofs
attribute [local simp] and_assoc
theorem ints_get {l : List Int} {i : Nat} {n : Int} (h : l[i]? = some n) : (ints l)[i]? = some (.int .i64 n) := by simp [ints, h]
/-- How much a step's text can be. -/
structure Small (s : Stp) : Prop where
  n : (stepNs s).length ≤ 10000
  ok : ∀ x ∈ stepNs s, NumOk x
theorem strsOf_wd : ∀ (ns : List Int), strsOf (ns.map fun n => D.str (wd n)) = some (ns.map wd)
  | [] => rfl
  | n :: ns => by simp [strsOf, strsOf_wd ns]
theorem w_join {ns : List Int} (hn : ns.length ≤ 10000) (ho : ∀ x ∈ ns, NumOk x) (z : Bool) (e : List D) : C 24 [.d (.sl 1 z (ns.map fun n => D.str (wd n)) e), .d (.str ⟨#[32]⟩)] = some (.d (.str (textOf ns)), [.d (.sl 1 z (ns.map fun n => D.str (wd n)) e), .d (.str ⟨#[32]⟩)]) := by
  refine W_prim (p := joinP) (by rfl) ?_
  have hs := textOf_size ns ho
  have h2 : (Lib.join ((ns.map wd).map (·.data.toList)) (⟨#[32]⟩ : ByteArray).data.toList).length ≤ 140737488355328 := by
    have e1 : (textOf ns).data.toList = Lib.join ((ns.map wd).map (·.data.toList)) [32] := joinB_list _
    have e2 := congrArg List.length e1
    rw [ba_len] at e2
    show (Lib.join ((ns.map wd).map (·.data.toList)) [32]).length ≤ _
    omega
  unfold joinP
  simp only [strsOf_wd]
  rw [if_pos ⟨h2, by simp; omega⟩]
  rfl
theorem w_write {s : Stp} (h : Small s) : C 14 [iSt s] = some (.d (.str (textOf (stepNs s))), [iSt s]) := by
  refine wfn (lk := []) rfl rfl (fnW_way (q14 _ _ s.r s.a s.i s.s s.b s.j s.t s.c.lz (lits s.c.ls) s.c.le s.c.tz (rws s.c.ts) s.c.te s.c.cz (lits s.c.cs) s.c.ce _) ?_)
  obtain ⟨hn, ho⟩ := h
  have hlen : (stepNs s).length = 7 + (1 + (litNs s.c.ls).length + (1 + (rowNs s.c.ts).length + (1 + (litNs s.c.cs).length))) := by
    simp [stepNs]; omega
  have hr := rowNs_len s.c.ts
  have a1 := w_slits false [s.r, s.a, s.i, s.s, s.b, s.j, s.t] (ls := s.c.ls) (by simp; omega) s.c.lz s.c.le
  generalize hA : [s.r, s.a, s.i, s.s, s.b, s.j, s.t] ++ ([(s.c.ls.length : Int)] ++ litNs s.c.ls) = A at a1
  have hAl : A.length = 8 + (litNs s.c.ls).length := by rw [← hA]; simp; omega
  refine ⟨_, _, _, a1, ?_⟩
  have k1 : (ints A).length + (0 + 1) ≤ 9223372036854775807 := by rw [ints_len]; omega
  have k2 : ((ints A).length + (0 + 1)) * 8 ≤ 140737488355328 := by rw [ints_len]; omega
  rw [condW_d, if_pos k1, condW_d, if_pos k2]
  have h1 := blk_fun (F := F) (d := d14) (lk := []) (p := [1,1,1,0,1,0,0]) (p0 := [1,1,1,0,1]) (id := 0) (by kernel_rfl) (st := fun (i : Nat) => [(1, .dbox 28 0 [.int .i64 s.r, .int .i64 s.a, .int .i64 s.i, .int .i64 s.s, .int .i64 s.b, .int .i64 s.j, .int .i64 s.t, .sl 2 s.c.lz (lits s.c.ls) s.c.le, .sl 1 s.c.tz (rws s.c.ts) s.c.te, .sl 2 s.c.cz (lits s.c.cs) s.c.ce]), (3, .own false 3 1 (ints (A ++ ([(s.c.ts.length : Int)] ++ rowNs (s.c.ts.take i))))), (37, iR s.c.tz s.c.ts s.c.te), (38, iI s.c.ts.length), (39, iI i)]) (I := fun i => i ≤ s.c.ts.length) (μ := fun i => s.c.ts.length - i)
    (res := fun _ => .norm [(1, .dbox 28 0 [.int .i64 s.r, .int .i64 s.a, .int .i64 s.i, .int .i64 s.s, .int .i64 s.b, .int .i64 s.j, .int .i64 s.t, .sl 2 s.c.lz (lits s.c.ls) s.c.le, .sl 1 s.c.tz (rws s.c.ts) s.c.te, .sl 2 s.c.cz (lits s.c.cs) s.c.ce]), (3, .own false 3 1 (ints (A ++ ([(s.c.ts.length : Int)] ++ rowNs s.c.ts)))), (37, iR s.c.tz s.c.ts s.c.te), (38, iI s.c.ts.length), (39, iI s.c.ts.length)])
    (fun i hi => by
      by_cases h : i < s.c.ts.length
      · obtain ⟨l, hl1⟩ := at_lt h
        have e1 : s.c.ts.take (i + 1) = s.c.ts.take i ++ [l] := by rw [List.take_add_one, hl1]; rfl
        have hb := rowNs_take s.c.ts (i + 1)
        rw [e1, rowNs_snoc] at hb
        simp only [List.length_append, List.length_cons, List.length_nil] at hb
        refine .go (i + 1) (wpQ_way (q14_l0a _ _ s.r s.a s.i s.s s.b s.j s.t s.c.lz (lits s.c.ls) s.c.le s.c.tz (rws s.c.ts) s.c.te s.c.cz (lits s.c.cs) s.c.ce false (ints (A ++ ([(s.c.ts.length : Int)] ++ rowNs (s.c.ts.take i)))) s.c.tz (rws s.c.ts) s.c.te s.c.ts.length i _) ?_) h (by omega) rfl
        have g0 : ((i : Int) < s.c.ts.length) := by omega
        have g1 : ((A ++ ([(s.c.ts.length : Int)] ++ rowNs (s.c.ts.take i))).length : Nat) + l.l.length + 2 ≤ 1000000 := by
          simp only [List.length_append, List.length_cons, List.length_nil]
          omega
        generalize hB : A ++ ([(s.c.ts.length : Int)] ++ rowNs (s.c.ts.take i)) = B at g1 ⊢
        have e2 : A ++ ([(s.c.ts.length : Int)] ++ rowNs (s.c.ts.take (i + 1))) = B ++ ([(l.l.length : Int)] ++ l.l) := by
          rw [e1, rowNs_snoc, ← hB]; simp
        rw [e2]
        have k5 : B.length + 1 ≤ 9223372036854775807 := by omega
        have k6 : (B.length + 1) * 8 ≤ 140737488355328 := by omega
        have k7 : B.length + 1 + l.l.length ≤ 9223372036854775807 := by omega
        have k8 : (B.length + 1 + l.l.length) * 8 ≤ 140737488355328 := by omega
        simp [-getElem?_pos, g0, rws_len, rws_at hl1, ints_len, ints, k5, k6, k7, k8, wr1 h (by omega)]
      · have e1 : i = s.c.ts.length := by omega
        subst e1
        refine .stop (.exit 0 [(1, .dbox 28 0 [.int .i64 s.r, .int .i64 s.a, .int .i64 s.i, .int .i64 s.s, .int .i64 s.b, .int .i64 s.j, .int .i64 s.t, .sl 2 s.c.lz (lits s.c.ls) s.c.le, .sl 1 s.c.tz (rws s.c.ts) s.c.te, .sl 2 s.c.cz (lits s.c.cs) s.c.ce]), (3, .own false 3 1 (ints (A ++ ([(s.c.ts.length : Int)] ++ rowNs s.c.ts)))), (37, iR s.c.tz s.c.ts s.c.te), (38, iI s.c.ts.length), (39, iI s.c.ts.length)]) (wpQ_way (q14_l0a _ _ s.r s.a s.i s.s s.b s.j s.t s.c.lz (lits s.c.ls) s.c.le s.c.tz (rws s.c.ts) s.c.te s.c.cz (lits s.c.cs) s.c.ce false (ints (A ++ ([(s.c.ts.length : Int)] ++ rowNs (s.c.ts.take s.c.ts.length)))) s.c.tz (rws s.c.ts) s.c.te s.c.ts.length s.c.ts.length _) ?_) rfl rfl
        simp [List.take_length]) 0 (Nat.zero_le _)
  have e3 : ints (A ++ ([(s.c.ts.length : Int)] ++ rowNs (s.c.ts.take 0))) = ints A ++ [.int .i64 (s.c.ts.length : Nat)] := by
    simp [rowNs, ints]
  rw [e3] at h1
  rw [Bool.and_false, rws_len]
  refine ⟨_, _, _, _, _, _, _, _, _, _, _, _, _, _, _, _, _, _, _, _, _, _, _, h1, ?_⟩
  clear h1 e3
  generalize hB : A ++ ([(s.c.ts.length : Int)] ++ rowNs s.c.ts) = B
  have hBl : B.length = A.length + (1 + (rowNs s.c.ts).length) := by rw [← hB]; simp; omega
  have a2 := w_slits false B (ls := s.c.cs) (by omega) s.c.cz s.c.ce
  have hS : B ++ ([(s.c.cs.length : Int)] ++ litNs s.c.cs) = stepNs s := by
    rw [← hB, ← hA]; simp [stepNs]
  rw [hS] at a2
  refine ⟨_, _, _, a2, ?_⟩
  have hne : 0 < (stepNs s).length := by omega
  generalize hN : stepNs s = ns at hn ho hne ⊢
  have m1 : (16 : Int) * ((ints ns).length : Int) ≤ 281474976710656 := by rw [ints_len]; omega
  have m2 : ((ints ns).length : Int) ≤ 9223372036854775807 := by rw [ints_len]; omega
  rw [condW_d, if_pos rfl, condW_d, if_pos (by simpa using m1), condW_d, if_pos (by simpa using m2)]
  have h2 := blk_fun (F := F) (d := d14) (lk := []) (p := [1,1,1,1,1,1,0,1,0,0]) (p0 := [1,1,1,1,1,1,0,1]) (id := 2) (by kernel_rfl) (st := fun (i : Nat) => [(6, .own false 9 1 ((ns.take i).map (fun n => D.str (wd n)) ++ List.replicate (ns.length - i) (D.str ⟨#[]⟩))), (59, .own false 3 1 (ints ns)), (60, iI ns.length), (61, iI i)]) (I := fun i => i ≤ ns.length) (μ := fun i => ns.length - i)
    (res := fun _ => .norm [(6, .own false 9 1 (ns.map (fun n => D.str (wd n)))), (59, .own false 3 1 (ints ns)), (60, iI ns.length), (61, iI ns.length)])
    (fun i hi => by
      by_cases h : i < ns.length
      · obtain ⟨n, hn1⟩ := at_lt h
        have e1 : ns.take (i + 1) = ns.take i ++ [n] := by rw [List.take_add_one, hn1]; rfl
        have e0 : ns.length - i = (ns.length - (i + 1)) + 1 := by omega
        refine .go (i + 1) (wpQ_way (q14_l2a _ _ false ((ns.take i).map (fun n => D.str (wd n)) ++ List.replicate (ns.length - i) (D.str ⟨#[]⟩)) false (ints ns) ns.length i _) ?_) h (by omega) rfl
        have g0 : ((i : Int) < ns.length) := by omega
        have ho1 := ho n (List.mem_of_getElem? hn1)
        have hl : ((ns.take i).map (fun n => D.str (wd n))).length = i := by simp; omega
        have g2 : ((ns.take i).map (fun n => D.str (wd n)) ++ List.replicate (ns.length - i) (D.str ⟨#[]⟩))[i]? = some (.str ⟨#[]⟩) := by
          rw [List.getElem?_append_right (by omega), hl, e0, Nat.sub_self]
          simp [List.replicate_succ]
        have g3 : ((ns.take i).map (fun n => D.str (wd n)) ++ List.replicate (ns.length - i) (D.str ⟨#[]⟩)).set i (.str (wd n)) = (ns.take (i + 1)).map (fun n => D.str (wd n)) ++ List.replicate (ns.length - (i + 1)) (D.str ⟨#[]⟩) := by
          rw [List.set_append_right _ _ (by omega), hl, Nat.sub_self, e0, List.replicate_succ, List.set_cons_zero, e1]
          simp
        have k9 := wr1 h (by omega)
        rw [condW_d, if_pos g0, condW_d, if_pos (by omega), Int.toNat_natCast]
        refine ⟨_, ints_get hn1, _, ints_get hn1, _, _, w_itoa ho1, ?_⟩
        rw [condW_d, if_pos (by omega)]
        refine ⟨_, g2, _, g2, ?_⟩
        rw [g3, k9]
      · have e1 : i = ns.length := by omega
        subst e1
        refine .stop (.exit 2 [(6, .own false 9 1 (ns.map (fun n => D.str (wd n)))), (59, .own false 3 1 (ints ns)), (60, iI ns.length), (61, iI ns.length)]) (wpQ_way (q14_l2a _ _ false ((ns.take ns.length).map (fun n => D.str (wd n)) ++ List.replicate (ns.length - ns.length) (D.str ⟨#[]⟩)) false (ints ns) ns.length ns.length _) ?_) rfl rfl
        simp [List.take_length]) 0 (Nat.zero_le _)
  simp only [List.take_zero, List.map_nil, List.nil_append, Nat.sub_zero] at h2
  rw [ints_len, Int.toNat_natCast]
  refine ⟨_, _, _, _, _, _, h2, ?_⟩
  exact ⟨_, _, _, w_join hn ho false [], rfl⟩
end Go.Proofs.YtjoibdmiolcodaaDoor.Ab

/- Steps as texts: what may be written, what is read, spoilt texts. Plain; no program in sight, no condition. -/
set_option linter.unusedVariables false
set_option linter.unusedSimpArgs false
namespace Go.Qu
open Go Go.Ab

theorem nums_atom {g : List Sym} {a : List Int} (h : atomB g a = true) : NumsOk a := by
  obtain ⟨h1, h2, h3⟩ := atom_codes h
  exact ⟨by omega, fun n hn => by have := h2 n hn; unfold NumOk; omega⟩
theorem nums_row {g : List Sym} {r : List Int} (hg : g.length ≤ 20) (h : rowB g r = true) : NumsOk r := by
  have h1 := rowB_len h
  exact ⟨by omega, fun n hn => by have := row_codes h n hn; unfold NumOk; omega⟩
theorem sig_len {g : List Sym} (h : sigB g = true) : g.length ≤ 20 := by
  exact (sigOk h).hi
structure ClFacts (g : List Sym) (c : Cl) : Prop where
  sg : sigB g = true
  n1 : c.ls.length ≤ 5
  n2 : c.ts.length ≤ 3
  n3 : c.cs.length ≤ 3
  l1 : litsB g c.ls = true
  l2 : rowsB g c.ts = true
  l3 : litsB g c.cs = true
  n4 : lenL c.ls + lenR c.ts + lenL c.cs ≤ 240
theorem cl_facts {g : List Sym} {c : Cl} (h : clB g c = true) : ClFacts g c := by
  simp only [clB, Bool.and_eq_true, decide_eq_true_eq] at h
  exact ⟨h.1, h.2.1, h.2.2.1, h.2.2.2.1, h.2.2.2.2.1, h.2.2.2.2.2.1, h.2.2.2.2.2.2.1, h.2.2.2.2.2.2.2⟩
theorem lits_nums {g : List Sym} {ls : List LitR} (h : litsB g ls = true) : ∀ x ∈ ls, NumsOk x.r.l := fun x hx => nums_atom (List.all_eq_true.1 h x hx)
theorem rows_nums {g : List Sym} (hg : g.length ≤ 20) {ts : List Row} (h : rowsB g ts = true) : ∀ x ∈ ts, NumsOk x.l := fun x hx => by
  cases ts with
  | nil => cases hx
  | cons r rs =>
    have h2 : rowsF g (termsN g r.l) (r :: rs) = true := h
    have h3 := List.all_eq_true.1 h2 x hx
    simp only [Bool.and_eq_true] at h3
    exact nums_row hg h3.1
theorem num_facts {s : Stp} (h : numB s = true) : (0 ≤ s.r ∧ s.r ≤ 7) ∧ (-1 ≤ s.a ∧ s.a ≤ 199) ∧ (-1 ≤ s.b ∧ s.b ≤ 199) ∧ (0 ≤ s.i ∧ s.i ≤ 4) ∧ (0 ≤ s.j ∧ s.j ≤ 4) ∧ (0 ≤ s.s ∧ s.s ≤ 1) ∧ (0 ≤ s.t ∧ s.t ≤ 48) := by
  simpa only [numB, Bool.and_eq_true, decide_eq_true_eq] using h
theorem may_ok {g : List Sym} {s : Stp} (h : mayB g s = true) : StpOk s := by
  simp only [mayB, Bool.and_eq_true] at h
  obtain ⟨h1, h2⟩ := h
  obtain ⟨a1, a2, a3, a4, a5, a6, a7⟩ := num_facts h1
  have c := cl_facts h2
  have hg := sig_len c.sg
  have := c.n1
  have := c.n2
  have := c.n3
  exact ⟨by unfold NumOk; omega, by unfold NumOk; omega, by unfold NumOk; omega, by unfold NumOk; omega, by unfold NumOk; omega, by unfold NumOk; omega, by unfold NumOk; omega, by omega, lits_nums c.l1, by omega, rows_nums hg c.l2, by omega, lits_nums c.l3⟩
theorem litNs_all {ls : List LitR} (h : ∀ x ∈ ls, NumsOk x.r.l) : ∀ n ∈ litNs ls, NumOk n := by
  intro n hn
  obtain ⟨x, hx, h2⟩ := List.mem_flatMap.1 hn
  have h3 := h x hx
  simp only [List.cons_append, List.nil_append, List.mem_cons] at h2
  rcases h2 with rfl | rfl | h2
  · unfold NumOk; split <;> omega
  · have := h3.1; unfold NumOk; omega
  · exact h3.2 n h2
theorem rowNs_all {ts : List Row} (h : ∀ x ∈ ts, NumsOk x.l) : ∀ n ∈ rowNs ts, NumOk n := by
  intro n hn
  obtain ⟨x, hx, h2⟩ := List.mem_flatMap.1 hn
  have h3 := h x hx
  simp only [List.cons_append, List.nil_append, List.mem_cons] at h2
  rcases h2 with rfl | h2
  · have := h3.1; unfold NumOk; omega
  · exact h3.2 n h2
theorem litNs_length (ls : List LitR) : (litNs ls).length = 2 * ls.length + lenL ls := by
  induction ls with
  | nil => rfl
  | cons x ls ih =>
    have e : litNs (x :: ls) = ([if x.neg then 1 else 0, (x.r.l.length : Int)] ++ x.r.l) ++ litNs ls := rfl
    rw [e]
    simp [lenL, ih]
    omega
theorem rowNs_length (ts : List Row) : (rowNs ts).length = ts.length + lenR ts := by
  induction ts with
  | nil => rfl
  | cons x ts ih =>
    have e : rowNs (x :: ts) = ([(x.l.length : Int)] ++ x.l) ++ rowNs ts := rfl
    rw [e]
    simp [lenR, ih]
    omega
theorem may_all {g : List Sym} {s : Stp} (h : mayB g s = true) : (stepNs s).length ≤ 300 ∧ ∀ n ∈ stepNs s, NumOk n := by
  have ok := may_ok h
  simp only [mayB, Bool.and_eq_true] at h
  have c := cl_facts h.2
  have := c.n1
  have := c.n2
  have := c.n3
  have := c.n4
  constructor
  · have e : (stepNs s).length = 7 + (1 + (litNs s.c.ls).length + (1 + (rowNs s.c.ts).length + (1 + (litNs s.c.cs).length))) := by
      simp [stepNs]; omega
    rw [e, litNs_length, rowNs_length, litNs_length]
    omega
  · intro n hn
    have hn' := hn
    simp only [stepNs, List.mem_append, List.mem_cons, List.not_mem_nil, or_false] at hn'
    rcases hn' with (rfl | rfl | rfl | rfl | rfl | rfl | rfl) | (rfl | hn') | (rfl | hn') | (rfl | hn')
    · exact ok.pr
    · exact ok.pa
    · exact ok.pi
    · exact ok.ps
    · exact ok.pb
    · exact ok.pj
    · exact ok.pt
    · unfold NumOk; omega
    · exact litNs_all ok.ls n hn'
    · unfold NumOk; omega
    · exact rowNs_all ok.ts n hn'
    · unfold NumOk; omega
    · exact litNs_all ok.cs n hn'

/-! ### New memory -/
theorem stepNs_new (s : Stp) : stepNs (newT s) = stepNs s := by
  simp [stepNs, newT, newC, litNs, rowNs, mkRow, List.flatMap_map]
theorem lenL_new (ls : List LitR) : lenL (ls.map fun x => ⟨x.neg, mkRow x.r.l⟩) = lenL ls := by
  induction ls with
  | nil => rfl
  | cons x ls ih =>
    show (mkRow x.r.l).l.length + lenL (ls.map fun x => ⟨x.neg, mkRow x.r.l⟩) = _
    rw [ih]; rfl
theorem lenR_new (ts : List Row) : lenR (ts.map fun x => mkRow x.l) = lenR ts := by
  induction ts with
  | nil => rfl
  | cons x ts ih =>
    show (mkRow x.l).l.length + lenR (ts.map fun x => mkRow x.l) = _
    rw [ih]; rfl
theorem mayB_new (g : List Sym) (s : Stp) : mayB g (newT s) = mayB g s := by
  have h1 : numB (newT s) = numB s := rfl
  have h2 : ∀ ls : List LitR, litsB g (ls.map fun x => ⟨x.neg, mkRow x.r.l⟩) = litsB g ls := fun ls => by
    simp [litsB, List.all_map, Function.comp_def, mkRow]
  have h3 : rowsB g (s.c.ts.map fun x => mkRow x.l) = rowsB g s.c.ts := by
    cases s.c.ts with
    | nil => rfl
    | cons r rs => simp [rowsB, rowsF, List.all_map, Function.comp_def, mkRow]
  unfold mayB
  rw [h1]
  congr 1
  simp only [clB, newT, newC, List.length_map, h2, h3, lenL_new, lenR_new]

/-! ### What is read -/
def readF (g : List Sym) (t : ByteArray) : Option Stp :=
  if (stepF (splitV t blankB)).2.2 = false ∧ mayB g (stepF (splitV t blankB)).1 = true ∧ textOf (stepNs (stepF (splitV t blankB)).1) = t then some (stepF (splitV t blankB)).1 else none
theorem readF_text {g : List Sym} {s : Stp} (h : mayB g s = true) : readF g (textOf (stepNs s)) = some (newT s) := by
  unfold readF
  rw [read_text (may_ok h)]
  rw [if_pos ⟨rfl, by rw [mayB_new]; exact h, by rw [stepNs_new]⟩]
theorem readF_some {g : List Sym} {t : ByteArray} {s : Stp} (h : readF g t = some s) : mayB g s = true ∧ t = textOf (stepNs s) := by
  unfold readF at h
  split at h
  · rename_i h2
    simp only [Option.some.injEq] at h
    subst h
    exact ⟨h2.2.1, h2.2.2.symm⟩
  · cases h
theorem readF_none {g : List Sym} {t : ByteArray} (h : ∀ s, mayB g s = true → t ≠ textOf (stepNs s)) : readF g t = none := by
  cases hr : readF g t with
  | none => rfl
  | some s => exact (h s (readF_some hr).1 (readF_some hr).2).elim

/-! ### Blanks -/
/-- No blank ahead, none behind another (p: one stands before). -/
def okB : Bool → List UInt8 → Bool
  | _, [] => true
  | p, c :: l => if c = 32 then !p && okB true l else okB false l
theorem okB_word : ∀ (w l : List UInt8) (p : Bool), w ≠ [] → (∀ c ∈ w, c ≠ 32) → okB p (w ++ l) = okB false l
  | [], l, p, h, _ => (h rfl).elim
  | [c], l, p, _, h => by simp [okB, h c (by simp)]
  | c :: d :: w, l, p, _, h => by
    have ih := okB_word (d :: w) l false (by simp) (fun x hx => h x (List.mem_cons_of_mem _ hx))
    show (if c = 32 then !p && okB true (d :: w ++ l) else okB false (d :: w ++ l)) = _
    rw [if_neg (h c (by simp))]
    exact ih
theorem okB_tail : ∀ (ns : List Int), okB false (Lib.joinTail [32] (ns.map Lib.itoa)) = true
  | [] => rfl
  | n :: ns => by
    have e : Lib.joinTail [32] ((n :: ns).map Lib.itoa) = 32 :: (Lib.itoa n ++ Lib.joinTail [32] (ns.map Lib.itoa)) := by
      simp [Lib.joinTail]
    rw [e]
    unfold okB
    rw [if_pos rfl, okB_word _ _ _ (itoa_ne n) (itoa_noblank n), okB_tail ns]
    rfl
theorem text_list (n : Int) (ns : List Int) : (textOf (n :: ns)).data.toList = Lib.itoa n ++ Lib.joinTail [32] (ns.map Lib.itoa) := by
  unfold textOf
  rw [show (⟨#[32]⟩ : ByteArray) = blankB from rfl, joinB_list, List.map_cons, List.map_cons, Lib.join_cons, wd_list]
  congr 2
  rw [List.map_map]
  apply List.map_congr_left
  intro m _
  exact wd_list m
theorem okB_text {ns : List Int} (h : ns ≠ []) : okB true (textOf ns).data.toList = true := by
  cases ns with
  | nil => exact (h rfl).elim
  | cons n ns => rw [text_list, okB_word _ _ _ (itoa_ne n) (itoa_noblank n), okB_tail]
theorem okB_two : ∀ (a b : List UInt8) (p : Bool), okB p (a ++ 32 :: 32 :: b) = false
  | [], b, p => by cases p <;> simp [okB]
  | c :: a, b, p => by
    have h1 := okB_two a b true
    have h2 := okB_two a b false
    rw [List.cons_append]
    unfold okB
    split <;> simp [h1, h2]
theorem spoilt_ne {t : ByteArray} (h : okB true t.data.toList = false) (g : List Sym) : readF g t = none :=
  readF_none fun s _ e => by rw [e, okB_text (stepNs_ne s)] at h; cases h
/-- One blank more, beside a blank or ahead. -/
theorem okB_insert {l : List UInt8} {k : Nat} (hk : k < l.length) (h : l[k]? = some 32 ∨ k = 0 ∨ (1 ≤ k ∧ l[k - 1]? = some 32)) : okB true (l.take k ++ 32 :: l.drop k) = false := by
  rcases h with h | rfl | ⟨h1, h⟩
  · have e : l.drop k = 32 :: l.drop (k + 1) := by
      rw [List.drop_eq_getElem_cons hk]
      congr 1
      rw [List.getElem?_eq_getElem hk] at h
      exact Option.some.inj h
    rw [e]
    exact okB_two _ _ _
  · simp [okB]
  · obtain ⟨j, rfl⟩ : ∃ j, k = j + 1 := ⟨k - 1, by omega⟩
    rw [Nat.add_sub_cancel] at h
    have e : l.take (j + 1) = l.take j ++ [32] := by rw [List.take_add_one, h]; rfl
    rw [e, List.append_assoc]
    exact okB_two _ _ _

/-! ### A nought ahead, a number more -/
theorem dec_nought : ∀ (n : Nat) (l : List UInt8), Lib.decDigits n = 48 :: l → n = 0 := by
  intro n
  induction n using Nat.strongRecOn with
  | ind n ih =>
    intro l h
    rw [Lib.decDigits] at h
    split at h
    · rename_i h1
      simp only [List.cons.injEq] at h
      have h2 := digits_byte h1
      rw [h.1] at h2
      have : (48 : UInt8).toNat = 48 := rfl
      omega
    · rename_i h1
      have h2 := (decDigits_dig (n / 10)).1
      cases hd : Lib.decDigits (n / 10) with
      | nil => exact (h2 hd).elim
      | cons c r =>
        rw [hd, List.cons_append] at h
        simp only [List.cons.injEq] at h
        have := ih (n / 10) (by omega) r (by rw [hd, h.1])
        omega
theorem itoa_nought {n : Int} {l : List UInt8} (h : Lib.itoa n = 48 :: l) : l = [] := by
  unfold Lib.itoa at h
  split at h
  · simp only [List.cons.injEq] at h
    exact absurd h.1 (by decide)
  · have h1 := dec_nought _ _ h
    rw [h1, Lib.decDigits, dif_pos (by omega)] at h
    simp at h
    exact h
theorem nought_ne {ns : List Int} (h : ns ≠ []) {t : ByteArray} (ht : t.data.toList = 48 :: (textOf ns).data.toList) (g : List Sym) : readF g t = none := by
  refine readF_none fun s _ e => ?_
  cases ns with
  | nil => exact h rfl
  | cons n ns =>
    have hw : NoBl ⟨(48 :: Lib.itoa n).toArray⟩ := fun c hc => by
      simp only [List.mem_cons] at hc
      rcases hc with rfl | hc
      · decide
      · exact itoa_noblank n c hc
    have e1 : t = joinB (⟨(48 :: Lib.itoa n).toArray⟩ :: ns.map wd) blankB := ba_ext (by
      rw [ht, text_list, joinB_list, List.map_cons, Lib.join_cons]
      simp only [List.cons_append]
      congr 3
      rw [List.map_map]
      apply List.map_congr_left
      intro m _
      exact (wd_list m).symm)
    have e2 := splitV_join (ns.map wd) _ hw (fun w hw => by obtain ⟨m, _, rfl⟩ := List.mem_map.1 hw; exact noBl_wd m)
    rw [← e1, e, split_text (stepNs_ne s)] at e2
    cases hs : stepNs s with
    | nil => exact stepNs_ne s hs
    | cons m ms =>
      rw [hs, List.map_cons] at e2
      simp only [List.cons.injEq] at e2
      have e3 : Lib.itoa m = 48 :: Lib.itoa n := by rw [← wd_list, e2.1]
      exact itoa_ne n (itoa_nought e3)
theorem text_snoc {ns : List Int} (h : ns ≠ []) (n : Int) : (textOf (ns ++ [n])).data.toList = (textOf ns).data.toList ++ 32 :: Lib.itoa n := by
  cases ns with
  | nil => exact (h rfl).elim
  | cons m ms =>
    rw [List.cons_append, text_list, text_list, List.append_assoc]
    congr 1
    simp [Lib.joinTail]
theorem more_ne {g : List Sym} {s : Stp} (h : mayB g s = true) {t : ByteArray} (ht : t.data.toList = (textOf (stepNs s)).data.toList ++ [32, 48]) (g' : List Sym) : readF g' t = none := by
  refine readF_none fun u hu e => ?_
  have e1 : t = textOf (stepNs s ++ [0]) := ba_ext (by
    rw [ht, text_snoc (stepNs_ne s)]
    congr 2
    unfold Lib.itoa
    rw [if_neg (by omega), Lib.decDigits, dif_pos (by omega)]
    rfl)
  have e2 := textOf_inj (stepNs_ne u) (by simp) (e.symm.trans e1)
  have k1 := stepF_wd (may_ok hu) []
  have k2 := stepF_wd (may_ok h) [wd 0]
  rw [List.append_nil, e2] at k1
  have e3 : (stepNs s ++ [0]).map wd = (stepNs s).map wd ++ [wd 0] := by simp
  rw [e3, k2] at k1
  simp at k1
theorem text_size3 {n m : Int} {ns : List Int} : 3 ≤ (textOf (n :: m :: ns)).size := by
  have h := congrArg List.length (text_list n (m :: ns))
  rw [ba_len] at h
  have h1 : 1 ≤ (Lib.itoa n).length := by
    cases hd : Lib.itoa n with
    | nil => exact (itoa_ne n hd).elim
    | cons _ _ => simp
  have h2 : 1 ≤ (Lib.itoa m).length := by
    cases hd : Lib.itoa m with
    | nil => exact (itoa_ne m hd).elim
    | cons _ _ => simp
  have e : Lib.joinTail [32] ((m :: ns).map Lib.itoa) = 32 :: (Lib.itoa m ++ Lib.joinTail [32] (ns.map Lib.itoa)) := by
    simp [Lib.joinTail]
  rw [e] at h
  simp only [List.length_append, List.length_cons] at h
  omega
theorem step_size3 (s : Stp) : 3 ≤ (textOf (stepNs s)).size := by
  have e : stepNs s = s.r :: s.a :: ([s.i, s.s, s.b, s.j, s.t] ++ ([(s.c.ls.length : Int)] ++ litNs s.c.ls ++ ([(s.c.ts.length : Int)] ++ rowNs s.c.ts ++ ([(s.c.cs.length : Int)] ++ litNs s.c.cs)))) := by simp [stepNs]
  rw [e]
  exact text_size3
/-! ### Of the words -/
theorem splitB_size (sep : ByteArray) : ∀ (k : Nat) (s : ByteArray), ∀ w ∈ Lib.splitB sep 0 k s, w.size ≤ s.size
  | 0, s, w, h => by
    rw [Lib.splitB_zero] at h
    simp only [List.mem_singleton] at h
    subst h
    exact Nat.le_refl _
  | k + 1, s, w, h => by
    unfold Lib.splitB at h
    split at h
    · simp only [List.mem_singleton] at h
      subst h
      exact Nat.le_refl _
    · rcases List.mem_cons.1 h with rfl | h
      · rw [ByteArray.size_extract]; omega
      · have := splitB_size sep k _ w h
        rw [ByteArray.size_extract] at this
        omega
theorem splitV_len {s sep : ByteArray} (h : 1 ≤ sep.size) : (splitV s sep).length ≤ s.size + 1 := by
  have h1 := Lib.splitB_all sep h 0 _ s rfl
  have h2 := Lib.countB_le sep h s.size s (Nat.le_refl _)
  unfold splitV
  omega
theorem stepF_eq {ws : List ByteArray} {x1 x2 x3 x4 x5 x6 x7 : Int × List ByteArray × Bool} {y1 y3 : List LitR × List ByteArray × Bool} {y2 : List Row × List ByteArray × Bool} (h1 : numF ws false = x1) (h2 : numF x1.2.1 x1.2.2 = x2) (h3 : numF x2.2.1 x2.2.2 = x3) (h4 : numF x3.2.1 x3.2.2 = x4) (h5 : numF x4.2.1 x4.2.2 = x5) (h6 : numF x5.2.1 x5.2.2 = x6) (h7 : numF x6.2.1 x6.2.2 = x7) (g1 : litsF x7.2.1 x7.2.2 = y1) (g2 : tupsF y1.2.1 y1.2.2 = y2) (g3 : litsF y2.2.1 y2.2.2 = y3) :
    stepF ws = (⟨x1.1, x2.1, x3.1, x4.1, x5.1, x6.1, x7.1, ⟨y1.1.isEmpty, y1.1, [], y2.1.isEmpty, y2.1, [], y3.1.isEmpty, y3.1, []⟩⟩, y3.2.1, y3.2.2) := by
  subst h1; subst h2; subst h3; subst h4; subst h5; subst h6; subst h7; subst g1; subst g2; subst g3
  rfl
end Go.Qu

/- Steps: Write, Read. For every input; conditions: the text is not longer than the library's bound. -/
set_option linter.unusedVariables false
set_option linter.unusedSimpArgs false
set_option maxRecDepth 100000
namespace Go.Proofs.YtjoibdmiolcodaaDoor.Ab
open Go Go.Ab Go.Qu Go.Proofs
attribute [local simp] and_assoc
theorem may_small {g : List Sym} {s : Stp} (h : mayB g s = true) : Small s := by
  have h1 := may_all h
  exact ⟨by have := h1.1; omega, h1.2⟩
def txtF (g : List Sym) (s : Stp) : ByteArray := if mayB g s = true then textOf (stepNs s) else ⟨#[]⟩
def errF (g : List Sym) (s : Stp) : Int := if mayB g s = true then 0 else 1700
theorem w_swrite (z : Bool) (g : List Sym) (e : List D) (s : Stp) : C 8 [iG z g e, iSt s] = some (.tup [.d (.str (txtF g s)), iI (errF g s)], [iG z g e, iSt s]) := by
  refine wfn (lk := []) rfl rfl (fnW_way (q8 _ _ z (syms g) e s.r s.a s.i s.s s.b s.j s.t s.c.lz (lits s.c.ls) s.c.le s.c.tz (rws s.c.ts) s.c.te s.c.cz (lits s.c.cs) s.c.ce _) ?_)
  refine ⟨_, _, _, w_stepmay z g e s, ?_⟩
  unfold txtF errF
  cases h : mayB g s with
  | true =>
    rw [condW_tt]
    exact ⟨_, _, w_write (may_small h), by simp⟩
  | false => simp
theorem w_split {t : ByteArray} (h : t.size < 4294967281) : C 17 [.d (.str t), .d (.str ⟨#[32]⟩)] = some (.d (.sl 1 false ((splitV t blankB).map .str) []), [.d (.str t), .d (.str ⟨#[32]⟩)]) := by
  refine W_prim (p := splitP) (by rfl) ?_
  unfold splitP
  dsimp only
  rw [if_pos ⟨h, by decide⟩]
  rfl
theorem ws_split {t : ByteArray} (h : t.size < 4294967281) : WsOk (splitV t blankB) := by
  refine ⟨?_, fun w hw => ?_⟩
  · have := splitV_len (s := t) (sep := blankB) (by decide)
    omega
  · have := splitB_size blankB _ t w hw
    omega
/-- What Read hands back. -/
def noStep : D := .agg [.int .i64 0, .int .i64 0, .int .i64 0, .int .i64 0, .int .i64 0, .int .i64 0, .int .i64 0, .sl 2 true [] [], .sl 1 true [] [], .sl 2 true [] []]
def readI (g : List Sym) (t : ByteArray) : IV := match readF g t with
  | none => .tup [.d noStep, iI 1700]
  | some s => .tup [.agg [iI s.r, iI s.a, iI s.i, iI s.s, iI s.b, iI s.j, iI s.t, .own s.c.lz 44 2 (lits s.c.ls), .own s.c.tz 42 1 (rws s.c.ts), .own s.c.cz 44 2 (lits s.c.cs)], iI 0]
theorem toList_beq (a b : ByteArray) : (a.toList == b.toList) = decide (a = b) := by
  by_cases h : a = b
  · subst h; simp
  · have : ¬ a.toList = b.toList := fun h2 => h (by
      rw [ByteArray.toList_eq, ByteArray.toList_eq] at h2
      exact ba_ext h2)
    simp [h, this]
theorem w_read (z : Bool) (g : List Sym) (e : List D) {t : ByteArray} (ht : t.size < 4294967281) : C 11 [iG z g e, .d (.str t)] = some (readI g t, [iG z g e, .d (.str t)]) := by
  refine wfn (lk := []) rfl rfl (fnW_way (q11 _ _ z (syms g) e t _) ?_)
  refine ⟨_, _, _, _, _, w_split ht, ?_⟩
  have k0 := ws_split ht
  unfold readI readF
  generalize splitV t blankB = ws at k0 ⊢
  obtain ⟨x1, h1⟩ : ∃ x, numF ws false = x := ⟨_, rfl⟩
  have c1 := w_rnum k0 false
  have k1 : WsOk x1.2.1 := by rw [← h1]; exact k0.sub (numF_len _ _) (numF_sub _ _)
  rw [h1] at c1
  obtain ⟨x2, h2⟩ : ∃ x, numF x1.2.1 x1.2.2 = x := ⟨_, rfl⟩
  have c2 := w_rnum k1 x1.2.2
  have k2 : WsOk x2.2.1 := by rw [← h2]; exact k1.sub (numF_len _ _) (numF_sub _ _)
  rw [h2] at c2
  obtain ⟨x3, h3⟩ : ∃ x, numF x2.2.1 x2.2.2 = x := ⟨_, rfl⟩
  have c3 := w_rnum k2 x2.2.2
  have k3 : WsOk x3.2.1 := by rw [← h3]; exact k2.sub (numF_len _ _) (numF_sub _ _)
  rw [h3] at c3
  obtain ⟨x4, h4⟩ : ∃ x, numF x3.2.1 x3.2.2 = x := ⟨_, rfl⟩
  have c4 := w_rnum k3 x3.2.2
  have k4 : WsOk x4.2.1 := by rw [← h4]; exact k3.sub (numF_len _ _) (numF_sub _ _)
  rw [h4] at c4
  obtain ⟨x5, h5⟩ : ∃ x, numF x4.2.1 x4.2.2 = x := ⟨_, rfl⟩
  have c5 := w_rnum k4 x4.2.2
  have k5 : WsOk x5.2.1 := by rw [← h5]; exact k4.sub (numF_len _ _) (numF_sub _ _)
  rw [h5] at c5
  obtain ⟨x6, h6⟩ : ∃ x, numF x5.2.1 x5.2.2 = x := ⟨_, rfl⟩
  have c6 := w_rnum k5 x5.2.2
  have k6 : WsOk x6.2.1 := by rw [← h6]; exact k5.sub (numF_len _ _) (numF_sub _ _)
  rw [h6] at c6
  obtain ⟨x7, h7⟩ : ∃ x, numF x6.2.1 x6.2.2 = x := ⟨_, rfl⟩
  have c7 := w_rnum k6 x6.2.2
  have k7 : WsOk x7.2.1 := by rw [← h7]; exact k6.sub (numF_len _ _) (numF_sub _ _)
  rw [h7] at c7
  obtain ⟨y1, g1⟩ : ∃ x, litsF x7.2.1 x7.2.2 = x := ⟨_, rfl⟩
  have d1 := w_rlits k7 x7.2.2
  have k8 : WsOk y1.2.1 := by rw [← g1]; exact k7.sub (litsF_len _ _) (litsF_sub _ _)
  rw [g1] at d1
  obtain ⟨y2, g2⟩ : ∃ x, tupsF y1.2.1 y1.2.2 = x := ⟨_, rfl⟩
  have d2 := w_tuples k8 y1.2.2
  have k9 : WsOk y2.2.1 := by rw [← g2]; exact k8.sub (tupsF_len _ _) (tupsF_sub _ _)
  rw [g2] at d2
  obtain ⟨y3, g3⟩ : ∃ x, litsF y2.2.1 y2.2.2 = x := ⟨_, rfl⟩
  have d3 := w_rlits k9 y2.2.2
  rw [g3] at d3
  rw [stepF_eq h1 h2 h3 h4 h5 h6 h7 g1 g2 g3]
  refine ⟨_, _, _, _, _, c1, ?_⟩
  refine ⟨_, _, _, _, _, c2, ?_⟩
  refine ⟨_, _, _, _, _, c3, ?_⟩
  refine ⟨_, _, _, _, _, c4, ?_⟩
  refine ⟨_, _, _, _, _, c5, ?_⟩
  refine ⟨_, _, _, _, _, c6, ?_⟩
  refine ⟨_, _, _, _, _, c7, ?_⟩
  refine ⟨_, _, _, _, _, _, d1, ?_⟩
  refine ⟨_, _, _, _, _, _, d2, ?_⟩
  refine ⟨_, _, _, _, _, _, d3, ?_⟩
  clear c1 c2 c3 c4 c5 c6 c7 d1 d2 d3
  obtain ⟨s, hs⟩ : ∃ s : Stp, s = ⟨x1.1, x2.1, x3.1, x4.1, x5.1, x6.1, x7.1, ⟨y1.1.isEmpty, y1.1, [], y2.1.isEmpty, y2.1, [], y3.1.isEmpty, y3.1, []⟩⟩ := ⟨_, rfl⟩
  have hm := w_stepmay z g e s
  have hw := fun h => w_write (s := s) (may_small (g := g) h)
  dsimp only
  rw [← hs]
  cases hb : y3.2.2 with
  | true =>
    rw [condW_tt, if_neg (by simp)]
    rfl
  | false =>
    rw [condW_ff]
    rw [hs] at hm
    refine ⟨_, _, _, hm, ?_⟩
    rw [← hs]
    cases hq : mayB g s with
    | false =>
      rw [condW_ff, if_neg (by simp)]
      rfl
    | true =>
      rw [condW_tt]
      have hw := hw hq
      rw [hs] at hw
      refine ⟨_, _, hw, ?_⟩
      rw [← hs, toList_beq]
      by_cases ht : textOf (stepNs s) = t
      · rw [if_pos ⟨rfl, rfl, ht⟩, decide_eq_true ht]
        subst hs
        rfl
      · rw [if_neg (fun h => ht h.2.2), decide_eq_false ht]
        rfl
end Go.Proofs.YtjoibdmiolcodaaDoor.Ab

/- A function's value from a table of what its calls tell. No condition. -/
set_option linter.unusedVariables false
set_option linter.unusedSimpArgs false
namespace Go.Ab
open Go
mutual
/-- Are two data the same? (Told of some kinds alone.) -/
def D.same : D → D → Bool
  | .int .i64 n, .int .i64 m => decide (n = m)
  | .bool a, .bool b => a == b
  | .str s, .str t => decide (s.data.toList = t.data.toList)
  | .sl a z xs e, .sl b y us f => decide (a = b) && (z == y && (D.sames xs us && D.sames e f))
  | .agg xs, .agg us => D.sames xs us
  | _, _ => false
def D.sames : List D → List D → Bool
  | [], [] => true
  | x :: xs, u :: us => D.same x u && D.sames xs us
  | _, _ => false
end
mutual
theorem D.same_eq : ∀ {x u : D}, D.same x u = true → x = u
  | .int .i64 n, .int .i64 m, h => by
    unfold D.same at h
    rw [of_decide_eq_true h]
  | .bool a, .bool b, h => by
    unfold D.same at h
    rw [eq_of_beq h]
  | .str s, .str t, h => by
    unfold D.same at h
    have h1 := of_decide_eq_true h
    cases s with
    | mk s =>
      cases t with
      | mk t =>
        cases s with
        | mk s =>
          cases t with
          | mk t =>
            have h2 : s = t := h1
            rw [h2]
  | .sl a z xs e, .sl b y us f, h => by
    unfold D.same at h
    simp only [Bool.and_eq_true, decide_eq_true_eq, beq_iff_eq] at h
    obtain ⟨h1, h2, h3, h4⟩ := h
    rw [h1, h2, D.sames_eq h3, D.sames_eq h4]
  | .agg xs, .agg us, h => by
    unfold D.same at h
    rw [D.sames_eq h]
theorem D.sames_eq : ∀ {xs us : List D}, D.sames xs us = true → xs = us
  | [], [], h => rfl
  | x :: xs, u :: us, h => by
    unfold D.sames at h
    rw [Bool.and_eq_true] at h
    rw [D.same_eq h.1, D.sames_eq h.2]
  | [], u :: us, h => by unfold D.sames at h; cases h
  | x :: xs, [], h => by unfold D.sames at h; cases h
end
def sameArgs : List IV → List IV → Bool
  | [], [] => true
  | .d x :: xs, .d u :: us => D.same x u && sameArgs xs us
  | _, _ => false
theorem sameArgs_eq : ∀ {xs us : List IV}, sameArgs xs us = true → xs = us
  | [], [], _ => rfl
  | .d x :: xs, .d u :: us, h => by
    unfold sameArgs at h
    rw [Bool.and_eq_true] at h
    rw [D.same_eq h.1, sameArgs_eq h.2]
abbrev Tbl := List (FuncId × List IV × (IV × List IV))
def tblC : Tbl → Caller
  | [], _, _ => none
  | e :: t, f, args => if e.1 = f ∧ sameArgs e.2.1 args = true then some e.2.2 else tblC t f args
theorem tbl_le {C : Caller} : ∀ {t : Tbl}, (∀ e ∈ t, C e.1 e.2.1 = some e.2.2) → CLe (tblC t) C
  | [], _ => fun f args r h => by unfold tblC at h; cases h
  | e :: t, ht => fun f args r h => by
    unfold tblC at h
    split at h
    · rename_i hh
      have h2 := ht e (by simp)
      rw [hh.1, sameArgs_eq hh.2] at h2
      rw [h2]; exact h
    · exact tbl_le (fun e he => ht e (by simp [he])) f args r h
theorem tbl_up {F : Fx} : ∀ {t : Tbl}, (∀ e ∈ t, W F e.1 e.2.1 = some e.2.2) → ∃ n, ∀ e ∈ t, evF F n e.1 e.2.1 = some e.2.2
  | [], _ => ⟨0, by simp⟩
  | e :: t, ht => by
    obtain ⟨n, hn⟩ := tbl_up (t := t) (fun e he => ht e (by simp [he]))
    obtain ⟨m, hm⟩ := lim_up (ht e (by simp))
    refine ⟨n + m, fun x hx => ?_⟩
    rcases List.mem_cons.1 hx with rfl | hx
    · exact evF_from hm (by omega)
    · exact evF_from (hn x hx) (by omega)
theorem evFn_from {F : Fx} {C : Caller} {d : FnD} {args : List IV} {r : IV × List IV} {n : Nat} (h : evFn F C n d args = some r) : ∀ k, evFn F C (n + k) d args = some r
  | 0 => h
  | k + 1 => evFn_le (CLe.refl C) (evFn_from h k)
theorem W_tbl {F : Fx} {f : FuncId} {d : FnD} {args : List IV} {r : IV × List IV} {n : Nat} (t : Tbl) (hp : F.prim f = none) (hc : F.code f = some d) (ht : ∀ e ∈ t, W F e.1 e.2.1 = some e.2.2) (h : evFn F (tblC t) n d args = some r) : W F f args = some r := by
  obtain ⟨m, hm⟩ := tbl_up ht
  have h1 : CLe (tblC t) (evF F (m + n + 1)) := tbl_le (fun e he => evF_from (hm e he) (by omega))
  have h2 := evFn_from (evFn_le h1 h) m
  rw [show n + 1 + m = m + n + 1 by omega] at h2
  refine lim_of (n := m + n + 1 + 1) (fun n r h => evF_le n _ _ _ h) ?_
  show (match F.prim f with | some p => p args | none => match F.code f with | some fn => evFn F (evF F (m + n + 1)) (m + n + 1) fn args | none => none) = _
  rw [hp, hc]
  exact h2
end Go.Ab

/- The words that chapter 17's laws ask first: true. No condition. -/
set_option linter.unusedVariables false
set_option linter.unusedSimpArgs false
set_option maxRecDepth 100000
namespace Go.Proofs.YtjoibdmiolcodaaDoor.Ab
open Go Go.Ab Go.Qu Go.Proofs
def awG : List Sym := [⟨⟨#[61]⟩, 0, 2, 1⟩, ⟨⟨#[97]⟩, 1, 0, 1⟩, ⟨⟨#[98]⟩, 1, 0, 2⟩, ⟨⟨#[102]⟩, 1, 1, 1⟩, ⟨⟨#[103]⟩, 1, 2, 3⟩, ⟨⟨#[112]⟩, 0, 1, 1⟩, ⟨⟨#[114]⟩, 0, 2, 2⟩]
def awS : Stp := ⟨6, 3, 0, 0, 12, 0, 0, ⟨false, [⟨true, ⟨false, [5, -1], []⟩⟩], [], false, [⟨false, [1, -1], []⟩], [], true, [], []⟩⟩
def awB : Stp := ⟨8, 0, 0, 0, 0, 0, 0, ⟨true, [], [], true, [], [], true, [], []⟩⟩
theorem awS_may : mayB awG awS = true := by decide +kernel
theorem awB_may : mayB awG awB = false := by decide +kernel
theorem itoa_small {n : Nat} (h : n < 10) : Lib.itoa (n : Int) = [UInt8.ofNat (48 + n)] := by
  unfold Lib.itoa
  rw [if_neg (by omega), Int.toNat_natCast, Lib.decDigits, dif_pos h]
theorem itoa_12 : Lib.itoa 12 = [49, 50] := by
  unfold Lib.itoa
  rw [if_neg (by decide), show (12 : Int).toNat = 12 from rfl, Lib.decDigits, dif_neg (by decide), Lib.decDigits, dif_pos (by decide)]
  rfl
theorem itoa_m1 : Lib.itoa (-1) = [45, 49] := by
  unfold Lib.itoa
  rw [if_pos (by decide), show (-1 : Int).natAbs = 1 from rfl, Lib.decDigits, dif_pos (by decide)]
  rfl
def awT : ByteArray := ⟨#[54, 32, 51, 32, 48, 32, 48, 32, 49, 50, 32, 48, 32, 48, 32, 49, 32, 49, 32, 50, 32, 53, 32, 45, 49, 32, 49, 32, 50, 32, 49, 32, 45, 49, 32, 48]⟩
def awT2 : ByteArray := ⟨#[54, 32, 51, 32, 48, 32, 48, 32, 49, 50, 32, 48, 32, 48, 32, 49, 32, 49, 32, 50, 32, 53, 32, 45, 49, 32, 49, 32, 50, 32, 49, 32, 45, 49, 32, 48, 32]⟩
theorem awT_text : textOf (stepNs awS) = awT := by
  have e : stepNs awS = [6, 3, 0, 0, 12, 0, 0, 1, 1, 2, 5, -1, 1, 2, 1, -1, 0] := by decide +kernel
  have i0 : Lib.itoa 0 = [48] := itoa_small (n := 0) (by decide)
  have i1 : Lib.itoa 1 = [49] := itoa_small (n := 1) (by decide)
  have i2 : Lib.itoa 2 = [50] := itoa_small (n := 2) (by decide)
  have i3 : Lib.itoa 3 = [51] := itoa_small (n := 3) (by decide)
  have i5 : Lib.itoa 5 = [53] := itoa_small (n := 5) (by decide)
  have i6 : Lib.itoa 6 = [54] := itoa_small (n := 6) (by decide)
  refine ba_ext ?_
  rw [e]
  unfold textOf
  rw [show (⟨#[32]⟩ : ByteArray) = blankB from rfl, joinB_list]
  simp only [List.map_cons, List.map_nil, wd_list, i0, i1, i2, i3, i5, i6, itoa_12, itoa_m1]
  rfl
theorem awT2_none : readF awG awT2 = none := by
  refine readF_none fun s _ e => ?_
  have h := text_snoc (stepNs_ne awS) 0
  have h1 : okB true (awT2.data.toList ++ [32]) = false := by decide +kernel
  have h2 : (textOf (stepNs s ++ [0])).data.toList = (textOf (stepNs s)).data.toList ++ 32 :: Lib.itoa 0 := text_snoc (stepNs_ne s) 0
  have h3 : okB true (textOf (stepNs s ++ [0])).data.toList = true := okB_text (by simp)
  rw [h2, ← e, show Lib.itoa 0 = [48] from itoa_small (n := 0) (by decide)] at h3
  exact absurd h3 (by decide +kernel)
theorem aw_write : C 8 [iG false awG [], iSt awS] = some (.tup [.d (.str awT), iI 0], [iG false awG [], iSt awS]) := by
  have h := w_swrite false awG [] awS
  unfold txtF errF at h
  rw [awS_may, if_pos rfl, if_pos rfl, awT_text] at h
  exact h
theorem aw_bad : C 8 [iG false awG [], iSt awB] = some (.tup [.d (.str ⟨#[]⟩), iI 1700], [iG false awG [], iSt awB]) := by
  have h := w_swrite false awG [] awB
  unfold txtF errF at h
  rw [awB_may, if_neg (by decide), if_neg (by decide)] at h
  exact h
theorem aw_read : C 11 [iG false awG [], .d (.str awT)] = some (.tup [.agg [iI 6, iI 3, iI 0, iI 0, iI 12, iI 0, iI 0, .own false 44 2 (lits awS.c.ls), .own false 42 1 (rws awS.c.ts), .own true 44 2 []], iI 0], [iG false awG [], .d (.str awT)]) := by
  have h := w_read false awG [] (t := awT) (by decide)
  unfold readI at h
  rw [← awT_text, readF_text awS_may] at h
  rw [← awT_text]
  exact h
theorem aw_read2 : C 11 [iG false awG [], .d (.str awT2)] = some (.tup [.d noStep, iI 1700], [iG false awG [], .d (.str awT2)]) := by
  have h := w_read false awG [] (t := awT2) (by decide)
  unfold readI at h
  rw [awT2_none] at h
  exact h
theorem aw_in : ClIn awS.c := ⟨⟨by simp [awS], by simp [awS, Len]⟩, by simp [awS], by simp [awS, Len], ⟨by simp [awS], by simp [awS]⟩⟩
theorem aw_same : C 12 [iSt awS, iSt awS] = some (iB true, [iSt awS, iSt awS]) := by
  have h := w_samestep aw_in awS
  rw [decide_eq_true rfl] at h
  exact h
theorem aw_may : C 10 [iG false awG [], iSt awS] = some (iB true, [iG false awG [], iSt awS]) := by
  have h := w_stepmay false awG [] awS
  rw [awS_may] at h
  exact h
theorem aw_words : C 13 [] = some (.own false 59 4 (syms awG), []) := W_ev (n := 60) (by kernel_rfl)
def awTbl : Tbl := [(13, [], (.own false 59 4 (syms awG), [])),
  (8, [iG false awG [], iSt awS], (.tup [.d (.str awT), iI 0], [iG false awG [], iSt awS])),
  (8, [iG false awG [], iSt awB], (.tup [.d (.str ⟨#[]⟩), iI 1700], [iG false awG [], iSt awB])),
  (11, [iG false awG [], .d (.str awT)], (.tup [.agg [iI 6, iI 3, iI 0, iI 0, iI 12, iI 0, iI 0, .own false 44 2 (lits awS.c.ls), .own false 42 1 (rws awS.c.ts), .own true 44 2 []], iI 0], [iG false awG [], .d (.str awT)])),
  (11, [iG false awG [], .d (.str awT2)], (.tup [.d noStep, iI 1700], [iG false awG [], .d (.str awT2)])),
  (9, [iI 0], (iI 0, [iI 0])), (9, [iI 1700], (iI 1700, [iI 1700])),
  (12, [iSt awS, iSt awS], (iB true, [iSt awS, iSt awS])),
  (10, [iG false awG [], iSt awS], (iB true, [iG false awG [], iSt awS]))]
theorem awTbl_ok : ∀ e ∈ awTbl, C e.1 e.2.1 = some e.2.2 := by
  intro e he
  simp only [awTbl, List.mem_cons, List.not_mem_nil, or_false] at he
  rcases he with rfl | rfl | rfl | rfl | rfl | rfl | rfl | rfl | rfl
  · exact aw_words
  · exact aw_write
  · exact aw_bad
  · exact aw_read
  · exact aw_read2
  · exact w_errnum 0
  · exact w_errnum 1700
  · exact aw_same
  · exact aw_may
theorem w_awake : C 7 [] = some (iB true, []) := W_tbl (n := 60) awTbl rfl rfl awTbl_ok (by kernel_rfl)
end Go.Proofs.YtjoibdmiolcodaaDoor.Ab

/- Written by a program of this session (wip/tools/AbSym.lean). Not trusted: Lean checks it. -/
set_option maxRecDepth 100000
set_option linter.unusedVariables false
namespace Go.Proofs.YtjoibdmiolcodaaDoor.Ab
open Go Go.Ab Go.Proofs
def L3 : Lps := fun b => match b with
  | _ => [.norm []]
theorem q3 (C J) (z1 : Bool) (x2 : List D) (e3 : List D) (i4 : Int) (i5 : Int) (i6 : Int) (i7 : Int) (i8 : Int) (i9 : Int) (i10 : Int) (z11 : Bool) (x12 : List D) (e13 : List D) (z14 : Bool) (x15 : List D) (e16 : List D) (z17 : Bool) (x18 : List D) (e19 : List D) (Q) : fnW F C R (L3) J d3 [.d (.sl 4 z1 x2 e3), .d (.agg [.int .i64 i4, .int .i64 i5, .int .i64 i6, .int .i64 i7, .int .i64 i8, .int .i64 i9, .int .i64 i10, .sl 2 z11 x12 e13, .sl 1 z14 x15 e16, .sl 2 z17 x18 e19])] Q = (∃ w0, C 7 [] = some (IV.d (D.bool w0), []) ∧ condW w0 (∃ w1 w2 w3 w4, C 8 [IV.d (D.sl 4 z1 x2 e3), IV.d (D.agg [D.int IntKind.i64 i4, D.int IntKind.i64 i5, D.int IntKind.i64 i6, D.int IntKind.i64 i7, D.int IntKind.i64 i8, D.int IntKind.i64 i9, D.int IntKind.i64 i10, D.sl 2 z11 x12 e13, D.sl 1 z14 x15 e16, D.sl 2 z17 x18 e19])] = some (IV.tup [IV.d (D.str w1), IV.d (D.int IntKind.i64 w2)], [IV.d w3, IV.d w4]) ∧ ∃ w5 w6, C 9 [IV.d (D.int IntKind.i64 w2)] = some (IV.d (D.int IntKind.i64 w5), [IV.d w6]) ∧ condW (w5 != 0) (∃ w7 w8 w9, C 10 [IV.d (D.sl 4 z1 x2 e3), IV.d (D.agg [D.int IntKind.i64 i4, D.int IntKind.i64 i5, D.int IntKind.i64 i6, D.int IntKind.i64 i7, D.int IntKind.i64 i8, D.int IntKind.i64 i9, D.int IntKind.i64 i10, D.sl 2 z11 x12 e13, D.sl 1 z14 x15 e16, D.sl 2 z17 x18 e19])] = some (IV.d (D.bool w7), [IV.d w8, IV.d w9]) ∧ condW w7 (Q (some (IV.d (D.bool false), [IV.d (D.sl 4 z1 x2 e3), IV.d (D.agg [D.int IntKind.i64 i4, D.int IntKind.i64 i5, D.int IntKind.i64 i6, D.int IntKind.i64 i7, D.int IntKind.i64 i8, D.int IntKind.i64 i9, D.int IntKind.i64 i10, D.sl 2 z11 x12 e13, D.sl 1 z14 x15 e16, D.sl 2 z17 x18 e19])]))) (condW (ByteArray.toList w1 == ByteArray.toList { data := #[] }) (Q (some (IV.d (D.bool true), [IV.d (D.sl 4 z1 x2 e3), IV.d (D.agg [D.int IntKind.i64 i4, D.int IntKind.i64 i5, D.int IntKind.i64 i6, D.int IntKind.i64 i7, D.int IntKind.i64 i8, D.int IntKind.i64 i9, D.int IntKind.i64 i10, D.sl 2 z11 x12 e13, D.sl 1 z14 x15 e16, D.sl 2 z17 x18 e19])]))) (Q (some (IV.d (D.bool false), [IV.d (D.sl 4 z1 x2 e3), IV.d (D.agg [D.int IntKind.i64 i4, D.int IntKind.i64 i5, D.int IntKind.i64 i6, D.int IntKind.i64 i7, D.int IntKind.i64 i8, D.int IntKind.i64 i9, D.int IntKind.i64 i10, D.sl 2 z11 x12 e13, D.sl 1 z14 x15 e16, D.sl 2 z17 x18 e19])]))))) ((∃ w10 w11 w12 w13 w14 w15 w16 w17 w18 w19, C 11 [IV.d (D.sl 4 z1 x2 e3), IV.d (D.str w1)] = some (IV.tup [IV.d (D.agg [D.int IntKind.i64 w10, D.int IntKind.i64 w11, D.int IntKind.i64 w12, D.int IntKind.i64 w13, D.int IntKind.i64 w14, D.int IntKind.i64 w15, D.int IntKind.i64 w16, D.sl 2 true [] [], D.sl 1 true [] [], D.sl 2 true [] []]), IV.d (D.int IntKind.i64 w17)], [IV.d w18, IV.d w19]) ∧ ∃ w20 w21, C 9 [IV.d (D.int IntKind.i64 w17)] = some (IV.d (D.int IntKind.i64 w20), [IV.d w21]) ∧ condW (w20 == 0) (∃ w22 w23 w24, C 12 [IV.d (D.agg [D.int IntKind.i64 i4, D.int IntKind.i64 i5, D.int IntKind.i64 i6, D.int IntKind.i64 i7, D.int IntKind.i64 i8, D.int IntKind.i64 i9, D.int IntKind.i64 i10, D.sl 2 z11 x12 e13, D.sl 1 z14 x15 e16, D.sl 2 z17 x18 e19]), IV.d (D.agg [D.int IntKind.i64 w10, D.int IntKind.i64 w11, D.int IntKind.i64 w12, D.int IntKind.i64 w13, D.int IntKind.i64 w14, D.int IntKind.i64 w15, D.int IntKind.i64 w16, D.sl 2 true [] [], D.sl 1 true [] [], D.sl 2 true [] []])] = some (IV.d (D.bool w22), [IV.d w23, IV.d w24]) ∧ condW w22 (∃ w25 w26 w27, C 10 [IV.d (D.sl 4 z1 x2 e3), IV.d (D.agg [D.int IntKind.i64 i4, D.int IntKind.i64 i5, D.int IntKind.i64 i6, D.int IntKind.i64 i7, D.int IntKind.i64 i8, D.int IntKind.i64 i9, D.int IntKind.i64 i10, D.sl 2 z11 x12 e13, D.sl 1 z14 x15 e16, D.sl 2 z17 x18 e19])] = some (IV.d (D.bool w25), [IV.d w26, IV.d w27]) ∧ condW w25 (Q (some (IV.d (D.bool true), [IV.d (D.sl 4 z1 x2 e3), IV.d (D.agg [D.int IntKind.i64 i4, D.int IntKind.i64 i5, D.int IntKind.i64 i6, D.int IntKind.i64 i7, D.int IntKind.i64 i8, D.int IntKind.i64 i9, D.int IntKind.i64 i10, D.sl 2 z11 x12 e13, D.sl 1 z14 x15 e16, D.sl 2 z17 x18 e19])]))) (Q (some (IV.d (D.bool false), [IV.d (D.sl 4 z1 x2 e3), IV.d (D.agg [D.int IntKind.i64 i4, D.int IntKind.i64 i5, D.int IntKind.i64 i6, D.int IntKind.i64 i7, D.int IntKind.i64 i8, D.int IntKind.i64 i9, D.int IntKind.i64 i10, D.sl 2 z11 x12 e13, D.sl 1 z14 x15 e16, D.sl 2 z17 x18 e19])])))) (Q (some (IV.d (D.bool false), [IV.d (D.sl 4 z1 x2 e3), IV.d (D.agg [D.int IntKind.i64 i4, D.int IntKind.i64 i5, D.int IntKind.i64 i6, D.int IntKind.i64 i7, D.int IntKind.i64 i8, D.int IntKind.i64 i9, D.int IntKind.i64 i10, D.sl 2 z11 x12 e13, D.sl 1 z14 x15 e16, D.sl 2 z17 x18 e19])])))) (Q (some (IV.d (D.bool false), [IV.d (D.sl 4 z1 x2 e3), IV.d (D.agg [D.int IntKind.i64 i4, D.int IntKind.i64 i5, D.int IntKind.i64 i6, D.int IntKind.i64 i7, D.int IntKind.i64 i8, D.int IntKind.i64 i9, D.int IntKind.i64 i10, D.sl 2 z11 x12 e13, D.sl 1 z14 x15 e16, D.sl 2 z17 x18 e19])])))) ∨ ∃ w28 w29 w30 w31 w32 w33 w34 w35 w36 w37 w38 w39 w40 w41 w42 w43, C 11 [IV.d (D.sl 4 z1 x2 e3), IV.d (D.str w1)] = some (IV.tup [IV.agg [IV.d (D.int IntKind.i64 w28), IV.d (D.int IntKind.i64 w29), IV.d (D.int IntKind.i64 w30), IV.d (D.int IntKind.i64 w31), IV.d (D.int IntKind.i64 w32), IV.d (D.int IntKind.i64 w33), IV.d (D.int IntKind.i64 w34), IV.own w35 44 2 w36, IV.own w37 42 1 w38, IV.own w39 44 2 w40], IV.d (D.int IntKind.i64 w41)], [IV.d w42, IV.d w43]) ∧ ∃ w44 w45, C 9 [IV.d (D.int IntKind.i64 w41)] = some (IV.d (D.int IntKind.i64 w44), [IV.d w45]) ∧ condW (w44 == 0) (∃ w46 w47 w48, C 12 [IV.d (D.agg [D.int IntKind.i64 i4, D.int IntKind.i64 i5, D.int IntKind.i64 i6, D.int IntKind.i64 i7, D.int IntKind.i64 i8, D.int IntKind.i64 i9, D.int IntKind.i64 i10, D.sl 2 z11 x12 e13, D.sl 1 z14 x15 e16, D.sl 2 z17 x18 e19]), IV.d (D.agg [D.int IntKind.i64 w28, D.int IntKind.i64 w29, D.int IntKind.i64 w30, D.int IntKind.i64 w31, D.int IntKind.i64 w32, D.int IntKind.i64 w33, D.int IntKind.i64 w34, D.sl 2 w35 w36 [], D.sl 1 w37 w38 [], D.sl 2 w39 w40 []])] = some (IV.d (D.bool w46), [IV.d w47, IV.d w48]) ∧ condW w46 (∃ w49 w50 w51, C 10 [IV.d (D.sl 4 z1 x2 e3), IV.d (D.agg [D.int IntKind.i64 i4, D.int IntKind.i64 i5, D.int IntKind.i64 i6, D.int IntKind.i64 i7, D.int IntKind.i64 i8, D.int IntKind.i64 i9, D.int IntKind.i64 i10, D.sl 2 z11 x12 e13, D.sl 1 z14 x15 e16, D.sl 2 z17 x18 e19])] = some (IV.d (D.bool w49), [IV.d w50, IV.d w51]) ∧ condW w49 (Q (some (IV.d (D.bool true), [IV.d (D.sl 4 z1 x2 e3), IV.d (D.agg [D.int IntKind.i64 i4, D.int IntKind.i64 i5, D.int IntKind.i64 i6, D.int IntKind.i64 i7, D.int IntKind.i64 i8, D.int IntKind.i64 i9, D.int IntKind.i64 i10, D.sl 2 z11 x12 e13, D.sl 1 z14 x15 e16, D.sl 2 z17 x18 e19])]))) (Q (some (IV.d (D.bool false), [IV.d (D.sl 4 z1 x2 e3), IV.d (D.agg [D.int IntKind.i64 i4, D.int IntKind.i64 i5, D.int IntKind.i64 i6, D.int IntKind.i64 i7, D.int IntKind.i64 i8, D.int IntKind.i64 i9, D.int IntKind.i64 i10, D.sl 2 z11 x12 e13, D.sl 1 z14 x15 e16, D.sl 2 z17 x18 e19])])))) (Q (some (IV.d (D.bool false), [IV.d (D.sl 4 z1 x2 e3), IV.d (D.agg [D.int IntKind.i64 i4, D.int IntKind.i64 i5, D.int IntKind.i64 i6, D.int IntKind.i64 i7, D.int IntKind.i64 i8, D.int IntKind.i64 i9, D.int IntKind.i64 i10, D.sl 2 z11 x12 e13, D.sl 1 z14 x15 e16, D.sl 2 z17 x18 e19])])))) (Q (some (IV.d (D.bool false), [IV.d (D.sl 4 z1 x2 e3), IV.d (D.agg [D.int IntKind.i64 i4, D.int IntKind.i64 i5, D.int IntKind.i64 i6, D.int IntKind.i64 i7, D.int IntKind.i64 i8, D.int IntKind.i64 i9, D.int IntKind.i64 i10, D.sl 2 z11 x12 e13, D.sl 1 z14 x15 e16, D.sl 2 z17 x18 e19])]))))) (Q (some (IV.d (D.bool false), [IV.d (D.sl 4 z1 x2 e3), IV.d (D.agg [D.int IntKind.i64 i4, D.int IntKind.i64 i5, D.int IntKind.i64 i6, D.int IntKind.i64 i7, D.int IntKind.i64 i8, D.int IntKind.i64 i9, D.int IntKind.i64 i10, D.sl 2 z11 x12 e13, D.sl 1 z14 x15 e16, D.sl 2 z17 x18 e19])])))) := by kernel_rfl
end Go.Proofs.YtjoibdmiolcodaaDoor.Ab

/- Written by a program of this session (wip/tools/AbSym.lean). Not trusted: Lean checks it. -/
set_option maxRecDepth 100000
set_option linter.unusedVariables false
namespace Go.Proofs.YtjoibdmiolcodaaDoor.Ab
open Go Go.Ab Go.Proofs
def L4 : Lps := fun b => match b with
  | _ => [.norm []]
theorem q4 (C J) (z1 : Bool) (x2 : List D) (e3 : List D) (i4 : Int) (i5 : Int) (i6 : Int) (i7 : Int) (i8 : Int) (i9 : Int) (i10 : Int) (z11 : Bool) (x12 : List D) (e13 : List D) (z14 : Bool) (x15 : List D) (e16 : List D) (z17 : Bool) (x18 : List D) (e19 : List D) (i20 : Int) (i21 : Int) (i22 : Int) (i23 : Int) (i24 : Int) (i25 : Int) (i26 : Int) (z27 : Bool) (x28 : List D) (e29 : List D) (z30 : Bool) (x31 : List D) (e32 : List D) (z33 : Bool) (x34 : List D) (e35 : List D) (Q) : fnW F C R (L4) J d4 [.d (.sl 4 z1 x2 e3), .d (.agg [.int .i64 i4, .int .i64 i5, .int .i64 i6, .int .i64 i7, .int .i64 i8, .int .i64 i9, .int .i64 i10, .sl 2 z11 x12 e13, .sl 1 z14 x15 e16, .sl 2 z17 x18 e19]), .d (.agg [.int .i64 i20, .int .i64 i21, .int .i64 i22, .int .i64 i23, .int .i64 i24, .int .i64 i25, .int .i64 i26, .sl 2 z27 x28 e29, .sl 1 z30 x31 e32, .sl 2 z33 x34 e35])] Q = (∃ w0, C 7 [] = some (IV.d (D.bool w0), []) ∧ condW w0 (∃ w1 w2 w3 w4, C 8 [IV.d (D.sl 4 z1 x2 e3), IV.d (D.agg [D.int IntKind.i64 i4, D.int IntKind.i64 i5, D.int IntKind.i64 i6, D.int IntKind.i64 i7, D.int IntKind.i64 i8, D.int IntKind.i64 i9, D.int IntKind.i64 i10, D.sl 2 z11 x12 e13, D.sl 1 z14 x15 e16, D.sl 2 z17 x18 e19])] = some (IV.tup [IV.d (D.str w1), IV.d (D.int IntKind.i64 w2)], [IV.d w3, IV.d w4]) ∧ ∃ w5 w6 w7 w8, C 8 [IV.d (D.sl 4 z1 x2 e3), IV.d (D.agg [D.int IntKind.i64 i20, D.int IntKind.i64 i21, D.int IntKind.i64 i22, D.int IntKind.i64 i23, D.int IntKind.i64 i24, D.int IntKind.i64 i25, D.int IntKind.i64 i26, D.sl 2 z27 x28 e29, D.sl 1 z30 x31 e32, D.sl 2 z33 x34 e35])] = some (IV.tup [IV.d (D.str w5), IV.d (D.int IntKind.i64 w6)], [IV.d w7, IV.d w8]) ∧ ∃ w9 w10, C 9 [IV.d (D.int IntKind.i64 w2)] = some (IV.d (D.int IntKind.i64 w9), [IV.d w10]) ∧ condW (w9 != 0) (condW (ByteArray.toList w1 == ByteArray.toList { data := #[] }) (Q (some (IV.d (D.bool true), [IV.d (D.sl 4 z1 x2 e3), IV.d (D.agg [D.int IntKind.i64 i4, D.int IntKind.i64 i5, D.int IntKind.i64 i6, D.int IntKind.i64 i7, D.int IntKind.i64 i8, D.int IntKind.i64 i9, D.int IntKind.i64 i10, D.sl 2 z11 x12 e13, D.sl 1 z14 x15 e16, D.sl 2 z17 x18 e19]), IV.d (D.agg [D.int IntKind.i64 i20, D.int IntKind.i64 i21, D.int IntKind.i64 i22, D.int IntKind.i64 i23, D.int IntKind.i64 i24, D.int IntKind.i64 i25, D.int IntKind.i64 i26, D.sl 2 z27 x28 e29, D.sl 1 z30 x31 e32, D.sl 2 z33 x34 e35])]))) (condW (ByteArray.toList w5 == ByteArray.toList { data := #[] }) (Q (some (IV.d (D.bool true), [IV.d (D.sl 4 z1 x2 e3), IV.d (D.agg [D.int IntKind.i64 i4, D.int IntKind.i64 i5, D.int IntKind.i64 i6, D.int IntKind.i64 i7, D.int IntKind.i64 i8, D.int IntKind.i64 i9, D.int IntKind.i64 i10, D.sl 2 z11 x12 e13, D.sl 1 z14 x15 e16, D.sl 2 z17 x18 e19]), IV.d (D.agg [D.int IntKind.i64 i20, D.int IntKind.i64 i21, D.int IntKind.i64 i22, D.int IntKind.i64 i23, D.int IntKind.i64 i24, D.int IntKind.i64 i25, D.int IntKind.i64 i26, D.sl 2 z27 x28 e29, D.sl 1 z30 x31 e32, D.sl 2 z33 x34 e35])]))) (Q (some (IV.d (D.bool false), [IV.d (D.sl 4 z1 x2 e3), IV.d (D.agg [D.int IntKind.i64 i4, D.int IntKind.i64 i5, D.int IntKind.i64 i6, D.int IntKind.i64 i7, D.int IntKind.i64 i8, D.int IntKind.i64 i9, D.int IntKind.i64 i10, D.sl 2 z11 x12 e13, D.sl 1 z14 x15 e16, D.sl 2 z17 x18 e19]), IV.d (D.agg [D.int IntKind.i64 i20, D.int IntKind.i64 i21, D.int IntKind.i64 i22, D.int IntKind.i64 i23, D.int IntKind.i64 i24, D.int IntKind.i64 i25, D.int IntKind.i64 i26, D.sl 2 z27 x28 e29, D.sl 1 z30 x31 e32, D.sl 2 z33 x34 e35])]))))) (∃ w11 w12, C 9 [IV.d (D.int IntKind.i64 w6)] = some (IV.d (D.int IntKind.i64 w11), [IV.d w12]) ∧ condW (w11 != 0) (condW (ByteArray.toList w1 == ByteArray.toList { data := #[] }) (Q (some (IV.d (D.bool true), [IV.d (D.sl 4 z1 x2 e3), IV.d (D.agg [D.int IntKind.i64 i4, D.int IntKind.i64 i5, D.int IntKind.i64 i6, D.int IntKind.i64 i7, D.int IntKind.i64 i8, D.int IntKind.i64 i9, D.int IntKind.i64 i10, D.sl 2 z11 x12 e13, D.sl 1 z14 x15 e16, D.sl 2 z17 x18 e19]), IV.d (D.agg [D.int IntKind.i64 i20, D.int IntKind.i64 i21, D.int IntKind.i64 i22, D.int IntKind.i64 i23, D.int IntKind.i64 i24, D.int IntKind.i64 i25, D.int IntKind.i64 i26, D.sl 2 z27 x28 e29, D.sl 1 z30 x31 e32, D.sl 2 z33 x34 e35])]))) (condW (ByteArray.toList w5 == ByteArray.toList { data := #[] }) (Q (some (IV.d (D.bool true), [IV.d (D.sl 4 z1 x2 e3), IV.d (D.agg [D.int IntKind.i64 i4, D.int IntKind.i64 i5, D.int IntKind.i64 i6, D.int IntKind.i64 i7, D.int IntKind.i64 i8, D.int IntKind.i64 i9, D.int IntKind.i64 i10, D.sl 2 z11 x12 e13, D.sl 1 z14 x15 e16, D.sl 2 z17 x18 e19]), IV.d (D.agg [D.int IntKind.i64 i20, D.int IntKind.i64 i21, D.int IntKind.i64 i22, D.int IntKind.i64 i23, D.int IntKind.i64 i24, D.int IntKind.i64 i25, D.int IntKind.i64 i26, D.sl 2 z27 x28 e29, D.sl 1 z30 x31 e32, D.sl 2 z33 x34 e35])]))) (Q (some (IV.d (D.bool false), [IV.d (D.sl 4 z1 x2 e3), IV.d (D.agg [D.int IntKind.i64 i4, D.int IntKind.i64 i5, D.int IntKind.i64 i6, D.int IntKind.i64 i7, D.int IntKind.i64 i8, D.int IntKind.i64 i9, D.int IntKind.i64 i10, D.sl 2 z11 x12 e13, D.sl 1 z14 x15 e16, D.sl 2 z17 x18 e19]), IV.d (D.agg [D.int IntKind.i64 i20, D.int IntKind.i64 i21, D.int IntKind.i64 i22, D.int IntKind.i64 i23, D.int IntKind.i64 i24, D.int IntKind.i64 i25, D.int IntKind.i64 i26, D.sl 2 z27 x28 e29, D.sl 1 z30 x31 e32, D.sl 2 z33 x34 e35])]))))) (condW (ByteArray.toList w1 == ByteArray.toList w5) (∃ w13 w14 w15, C 12 [IV.d (D.agg [D.int IntKind.i64 i4, D.int IntKind.i64 i5, D.int IntKind.i64 i6, D.int IntKind.i64 i7, D.int IntKind.i64 i8, D.int IntKind.i64 i9, D.int IntKind.i64 i10, D.sl 2 z11 x12 e13, D.sl 1 z14 x15 e16, D.sl 2 z17 x18 e19]), IV.d (D.agg [D.int IntKind.i64 i20, D.int IntKind.i64 i21, D.int IntKind.i64 i22, D.int IntKind.i64 i23, D.int IntKind.i64 i24, D.int IntKind.i64 i25, D.int IntKind.i64 i26, D.sl 2 z27 x28 e29, D.sl 1 z30 x31 e32, D.sl 2 z33 x34 e35])] = some (IV.d (D.bool w13), [IV.d w14, IV.d w15]) ∧ condW w13 (Q (some (IV.d (D.bool true), [IV.d (D.sl 4 z1 x2 e3), IV.d (D.agg [D.int IntKind.i64 i4, D.int IntKind.i64 i5, D.int IntKind.i64 i6, D.int IntKind.i64 i7, D.int IntKind.i64 i8, D.int IntKind.i64 i9, D.int IntKind.i64 i10, D.sl 2 z11 x12 e13, D.sl 1 z14 x15 e16, D.sl 2 z17 x18 e19]), IV.d (D.agg [D.int IntKind.i64 i20, D.int IntKind.i64 i21, D.int IntKind.i64 i22, D.int IntKind.i64 i23, D.int IntKind.i64 i24, D.int IntKind.i64 i25, D.int IntKind.i64 i26, D.sl 2 z27 x28 e29, D.sl 1 z30 x31 e32, D.sl 2 z33 x34 e35])]))) (Q (some (IV.d (D.bool false), [IV.d (D.sl 4 z1 x2 e3), IV.d (D.agg [D.int IntKind.i64 i4, D.int IntKind.i64 i5, D.int IntKind.i64 i6, D.int IntKind.i64 i7, D.int IntKind.i64 i8, D.int IntKind.i64 i9, D.int IntKind.i64 i10, D.sl 2 z11 x12 e13, D.sl 1 z14 x15 e16, D.sl 2 z17 x18 e19]), IV.d (D.agg [D.int IntKind.i64 i20, D.int IntKind.i64 i21, D.int IntKind.i64 i22, D.int IntKind.i64 i23, D.int IntKind.i64 i24, D.int IntKind.i64 i25, D.int IntKind.i64 i26, D.sl 2 z27 x28 e29, D.sl 1 z30 x31 e32, D.sl 2 z33 x34 e35])])))) (∃ w16 w17 w18, C 12 [IV.d (D.agg [D.int IntKind.i64 i4, D.int IntKind.i64 i5, D.int IntKind.i64 i6, D.int IntKind.i64 i7, D.int IntKind.i64 i8, D.int IntKind.i64 i9, D.int IntKind.i64 i10, D.sl 2 z11 x12 e13, D.sl 1 z14 x15 e16, D.sl 2 z17 x18 e19]), IV.d (D.agg [D.int IntKind.i64 i20, D.int IntKind.i64 i21, D.int IntKind.i64 i22, D.int IntKind.i64 i23, D.int IntKind.i64 i24, D.int IntKind.i64 i25, D.int IntKind.i64 i26, D.sl 2 z27 x28 e29, D.sl 1 z30 x31 e32, D.sl 2 z33 x34 e35])] = some (IV.d (D.bool w16), [IV.d w17, IV.d w18]) ∧ condW w16 (Q (some (IV.d (D.bool false), [IV.d (D.sl 4 z1 x2 e3), IV.d (D.agg [D.int IntKind.i64 i4, D.int IntKind.i64 i5, D.int IntKind.i64 i6, D.int IntKind.i64 i7, D.int IntKind.i64 i8, D.int IntKind.i64 i9, D.int IntKind.i64 i10, D.sl 2 z11 x12 e13, D.sl 1 z14 x15 e16, D.sl 2 z17 x18 e19]), IV.d (D.agg [D.int IntKind.i64 i20, D.int IntKind.i64 i21, D.int IntKind.i64 i22, D.int IntKind.i64 i23, D.int IntKind.i64 i24, D.int IntKind.i64 i25, D.int IntKind.i64 i26, D.sl 2 z27 x28 e29, D.sl 1 z30 x31 e32, D.sl 2 z33 x34 e35])]))) (Q (some (IV.d (D.bool true), [IV.d (D.sl 4 z1 x2 e3), IV.d (D.agg [D.int IntKind.i64 i4, D.int IntKind.i64 i5, D.int IntKind.i64 i6, D.int IntKind.i64 i7, D.int IntKind.i64 i8, D.int IntKind.i64 i9, D.int IntKind.i64 i10, D.sl 2 z11 x12 e13, D.sl 1 z14 x15 e16, D.sl 2 z17 x18 e19]), IV.d (D.agg [D.int IntKind.i64 i20, D.int IntKind.i64 i21, D.int IntKind.i64 i22, D.int IntKind.i64 i23, D.int IntKind.i64 i24, D.int IntKind.i64 i25, D.int IntKind.i64 i26, D.sl 2 z27 x28 e29, D.sl 1 z30 x31 e32, D.sl 2 z33 x34 e35])]))))))) (Q (some (IV.d (D.bool false), [IV.d (D.sl 4 z1 x2 e3), IV.d (D.agg [D.int IntKind.i64 i4, D.int IntKind.i64 i5, D.int IntKind.i64 i6, D.int IntKind.i64 i7, D.int IntKind.i64 i8, D.int IntKind.i64 i9, D.int IntKind.i64 i10, D.sl 2 z11 x12 e13, D.sl 1 z14 x15 e16, D.sl 2 z17 x18 e19]), IV.d (D.agg [D.int IntKind.i64 i20, D.int IntKind.i64 i21, D.int IntKind.i64 i22, D.int IntKind.i64 i23, D.int IntKind.i64 i24, D.int IntKind.i64 i25, D.int IntKind.i64 i26, D.sl 2 z27 x28 e29, D.sl 1 z30 x31 e32, D.sl 2 z33 x34 e35])])))) := by kernel_rfl
end Go.Proofs.YtjoibdmiolcodaaDoor.Ab

/- StepBack, StepApart. For every input; no condition. -/
set_option linter.unusedVariables false
set_option linter.unusedSimpArgs false
set_option maxRecDepth 100000
namespace Go.Proofs.YtjoibdmiolcodaaDoor.Ab
open Go Go.Ab Go.Qu Go.Proofs
theorem good_step {n : Nat} {x : D} (h : Go.Ab.Good Tryd.prog (n + 6) 28 x) : ∃ s : Stp, x = s.d ∧ ClIn s.c := by
  unfold Go.Ab.Good at h
  rw [Tryd.underlying28] at h
  obtain ⟨ys, rfl, y0, r0, rfl, h0, y1, r1, rfl, h1, y2, r2, rfl, h2, y3, r3, rfl, h3, y4, r4, rfl, h4, y5, r5, rfl, h5, y6, r6, rfl, h6, y7, r7, rfl, h7, rfl⟩ := h
  obtain ⟨a0, rfl, _⟩ := good_int h0
  obtain ⟨a1, rfl, _⟩ := good_int h1
  obtain ⟨a2, rfl, _⟩ := good_int h2
  obtain ⟨a3, rfl, _⟩ := good_int h3
  obtain ⟨a4, rfl, _⟩ := good_int h4
  obtain ⟨a5, rfl, _⟩ := good_int h5
  obtain ⟨a6, rfl, _⟩ := good_int h6
  obtain ⟨c, rfl, hc⟩ := good_clause h7
  exact ⟨⟨a0, a1, a2, a3, a4, a5, a6, c⟩, rfl, hc⟩
theorem txt_t {g : List Sym} {s : Stp} (h : mayB g s = true) : txtF g s = textOf (stepNs s) ∧ errF g s = 0 := by simp [txtF, errF, h]
theorem txt_f {g : List Sym} {s : Stp} (h : mayB g s = false) : txtF g s = ⟨#[]⟩ ∧ errF g s = 1700 := by simp [txtF, errF, h]
theorem text_short {g : List Sym} {s : Stp} (h : mayB g s = true) : (textOf (stepNs s)).size ≤ 3300 := by
  have h1 := may_all h
  have h2 := textOf_size _ h1.2
  have := h1.1
  omega
end Go.Proofs.YtjoibdmiolcodaaDoor.Ab

/- Written by a program of this session (wip/tools/AbSym.lean). Not trusted: Lean checks it. -/
set_option maxRecDepth 100000
set_option linter.unusedVariables false
namespace Go.Proofs.YtjoibdmiolcodaaDoor.Ab
open Go Go.Ab Go.Proofs
def L5 : Lps := fun b => match b with
  | _ => [.norm []]
theorem q5 (C J) (z1 : Bool) (x2 : List D) (e3 : List D) (i4 : Int) (i5 : Int) (i6 : Int) (i7 : Int) (i8 : Int) (i9 : Int) (i10 : Int) (z11 : Bool) (x12 : List D) (e13 : List D) (z14 : Bool) (x15 : List D) (e16 : List D) (z17 : Bool) (x18 : List D) (e19 : List D) (i20 : Int) (Q) : fnW F C R (L5) J d5 [.d (.sl 4 z1 x2 e3), .d (.agg [.int .i64 i4, .int .i64 i5, .int .i64 i6, .int .i64 i7, .int .i64 i8, .int .i64 i9, .int .i64 i10, .sl 2 z11 x12 e13, .sl 1 z14 x15 e16, .sl 2 z17 x18 e19]), .d (.int .i64 i20)] Q = (∃ w0, C 7 [] = some (IV.d (D.bool w0), []) ∧ condW w0 (∃ w1 w2 w3 w4, C 8 [IV.d (D.sl 4 z1 x2 e3), IV.d (D.agg [D.int IntKind.i64 i4, D.int IntKind.i64 i5, D.int IntKind.i64 i6, D.int IntKind.i64 i7, D.int IntKind.i64 i8, D.int IntKind.i64 i9, D.int IntKind.i64 i10, D.sl 2 z11 x12 e13, D.sl 1 z14 x15 e16, D.sl 2 z17 x18 e19])] = some (IV.tup [IV.d (D.str w1), IV.d (D.int IntKind.i64 w2)], [IV.d w3, IV.d w4]) ∧ ∃ w5 w6, C 9 [IV.d (D.int IntKind.i64 w2)] = some (IV.d (D.int IntKind.i64 w5), [IV.d w6]) ∧ condW (w5 != 0) (∃ w7 w8, C 9 [IV.d (D.int IntKind.i64 w2)] = some (IV.d (D.int IntKind.i64 w7), [IV.d w8]) ∧ condW (w7 != 0) (Q (some (IV.d (D.bool true), [IV.d (D.sl 4 z1 x2 e3), IV.d (D.agg [D.int IntKind.i64 i4, D.int IntKind.i64 i5, D.int IntKind.i64 i6, D.int IntKind.i64 i7, D.int IntKind.i64 i8, D.int IntKind.i64 i9, D.int IntKind.i64 i10, D.sl 2 z11 x12 e13, D.sl 1 z14 x15 e16, D.sl 2 z17 x18 e19]), IV.d (D.int IntKind.i64 i20)]))) (Q (some (IV.d (D.bool false), [IV.d (D.sl 4 z1 x2 e3), IV.d (D.agg [D.int IntKind.i64 i4, D.int IntKind.i64 i5, D.int IntKind.i64 i6, D.int IntKind.i64 i7, D.int IntKind.i64 i8, D.int IntKind.i64 i9, D.int IntKind.i64 i10, D.sl 2 z11 x12 e13, D.sl 1 z14 x15 e16, D.sl 2 z17 x18 e19]), IV.d (D.int IntKind.i64 i20)])))) (condW (decide ((↑(ByteArray.size w1) : Int) < 3)) (∃ w9 w10, C 9 [IV.d (D.int IntKind.i64 w2)] = some (IV.d (D.int IntKind.i64 w9), [IV.d w10]) ∧ condW (w9 != 0) (Q (some (IV.d (D.bool true), [IV.d (D.sl 4 z1 x2 e3), IV.d (D.agg [D.int IntKind.i64 i4, D.int IntKind.i64 i5, D.int IntKind.i64 i6, D.int IntKind.i64 i7, D.int IntKind.i64 i8, D.int IntKind.i64 i9, D.int IntKind.i64 i10, D.sl 2 z11 x12 e13, D.sl 1 z14 x15 e16, D.sl 2 z17 x18 e19]), IV.d (D.int IntKind.i64 i20)]))) (Q (some (IV.d (D.bool false), [IV.d (D.sl 4 z1 x2 e3), IV.d (D.agg [D.int IntKind.i64 i4, D.int IntKind.i64 i5, D.int IntKind.i64 i6, D.int IntKind.i64 i7, D.int IntKind.i64 i8, D.int IntKind.i64 i9, D.int IntKind.i64 i10, D.sl 2 z11 x12 e13, D.sl 1 z14 x15 e16, D.sl 2 z17 x18 e19]), IV.d (D.int IntKind.i64 i20)])))) (condW (!IntKind.wrap IntKind.u64 (↑(ByteArray.size w1) : Int) == 0) (condW (decide (0 ≤ IntKind.wrap IntKind.i64 (Int.tmod (IntKind.wrap IntKind.u64 i20) (IntKind.wrap IntKind.u64 (↑(ByteArray.size w1) : Int))))) (condW (decide (IntKind.wrap IntKind.i64 (Int.tmod (IntKind.wrap IntKind.u64 i20) (IntKind.wrap IntKind.u64 (↑(ByteArray.size w1) : Int))) ≤ (↑(ByteArray.size w1) : Int))) (condW (decide (ByteArray.size (ByteArray.extract w1 (Int.toNat 0) (Int.toNat (IntKind.wrap IntKind.i64 (Int.tmod (IntKind.wrap IntKind.u64 i20) (IntKind.wrap IntKind.u64 (↑(ByteArray.size w1) : Int)))))) + ByteArray.size { data := #[32] } ≤ 9223372036854775807)) (condW (decide (0 ≤ IntKind.wrap IntKind.i64 (Int.tmod (IntKind.wrap IntKind.u64 i20) (IntKind.wrap IntKind.u64 (↑(ByteArray.size w1) : Int))))) (condW (decide (IntKind.wrap IntKind.i64 (Int.tmod (IntKind.wrap IntKind.u64 i20) (IntKind.wrap IntKind.u64 (↑(ByteArray.size w1) : Int))) ≤ (↑(ByteArray.size w1) : Int))) (condW (decide (ByteArray.size (ByteArray.extract w1 (Int.toNat 0) (Int.toNat (IntKind.wrap IntKind.i64 (Int.tmod (IntKind.wrap IntKind.u64 i20) (IntKind.wrap IntKind.u64 (↑(ByteArray.size w1) : Int))))) ++ { data := #[32] }) + ByteArray.size (ByteArray.extract w1 (Int.toNat (IntKind.wrap IntKind.i64 (Int.tmod (IntKind.wrap IntKind.u64 i20) (IntKind.wrap IntKind.u64 (↑(ByteArray.size w1) : Int))))) (Int.toNat (↑(ByteArray.size w1) : Int))) ≤ 9223372036854775807)) ((∃ w11 w12 w13 w14 w15 w16 w17 w18 w19 w20, C 11 [IV.d (D.sl 4 z1 x2 e3), IV.d (D.str (ByteArray.extract w1 (Int.toNat 0) (Int.toNat (IntKind.wrap IntKind.i64 (Int.tmod (IntKind.wrap IntKind.u64 i20) (IntKind.wrap IntKind.u64 (↑(ByteArray.size w1) : Int))))) ++ { data := #[32] } ++ ByteArray.extract w1 (Int.toNat (IntKind.wrap IntKind.i64 (Int.tmod (IntKind.wrap IntKind.u64 i20) (IntKind.wrap IntKind.u64 (↑(ByteArray.size w1) : Int))))) (Int.toNat (↑(ByteArray.size w1) : Int))))] = some (IV.tup [IV.d (D.agg [D.int IntKind.i64 w11, D.int IntKind.i64 w12, D.int IntKind.i64 w13, D.int IntKind.i64 w14, D.int IntKind.i64 w15, D.int IntKind.i64 w16, D.int IntKind.i64 w17, D.sl 2 true [] [], D.sl 1 true [] [], D.sl 2 true [] []]), IV.d (D.int IntKind.i64 w18)], [IV.d w19, IV.d w20]) ∧ condW (decide (ByteArray.size { data := #[32] } + ByteArray.size w1 ≤ 9223372036854775807)) ((∃ w21 w22 w23 w24 w25 w26 w27 w28 w29 w30, C 11 [IV.d (D.sl 4 z1 x2 e3), IV.d (D.str ({ data := #[32] } ++ w1))] = some (IV.tup [IV.d (D.agg [D.int IntKind.i64 w21, D.int IntKind.i64 w22, D.int IntKind.i64 w23, D.int IntKind.i64 w24, D.int IntKind.i64 w25, D.int IntKind.i64 w26, D.int IntKind.i64 w27, D.sl 2 true [] [], D.sl 1 true [] [], D.sl 2 true [] []]), IV.d (D.int IntKind.i64 w28)], [IV.d w29, IV.d w30]) ∧ condW (decide (ByteArray.size { data := #[48] } + ByteArray.size w1 ≤ 9223372036854775807)) ((∃ w31 w32 w33 w34 w35 w36 w37 w38 w39 w40, C 11 [IV.d (D.sl 4 z1 x2 e3), IV.d (D.str ({ data := #[48] } ++ w1))] = some (IV.tup [IV.d (D.agg [D.int IntKind.i64 w31, D.int IntKind.i64 w32, D.int IntKind.i64 w33, D.int IntKind.i64 w34, D.int IntKind.i64 w35, D.int IntKind.i64 w36, D.int IntKind.i64 w37, D.sl 2 true [] [], D.sl 1 true [] [], D.sl 2 true [] []]), IV.d (D.int IntKind.i64 w38)], [IV.d w39, IV.d w40]) ∧ condW (decide (ByteArray.size w1 + ByteArray.size { data := #[32, 48] } ≤ 9223372036854775807)) ((∃ w41 w42 w43 w44 w45 w46 w47 w48 w49 w50, C 11 [IV.d (D.sl 4 z1 x2 e3), IV.d (D.str (w1 ++ { data := #[32, 48] }))] = some (IV.tup [IV.d (D.agg [D.int IntKind.i64 w41, D.int IntKind.i64 w42, D.int IntKind.i64 w43, D.int IntKind.i64 w44, D.int IntKind.i64 w45, D.int IntKind.i64 w46, D.int IntKind.i64 w47, D.sl 2 true [] [], D.sl 1 true [] [], D.sl 2 true [] []]), IV.d (D.int IntKind.i64 w48)], [IV.d w49, IV.d w50]) ∧ condW (decide (0 ≤ IntKind.wrap IntKind.i64 (Int.tmod (IntKind.wrap IntKind.u64 i20) (IntKind.wrap IntKind.u64 (↑(ByteArray.size w1) : Int))))) (condW (decide (IntKind.wrap IntKind.i64 (Int.tmod (IntKind.wrap IntKind.u64 i20) (IntKind.wrap IntKind.u64 (↑(ByteArray.size w1) : Int))) < (↑(ByteArray.size w1) : Int))) (condW (byteAt w1 (Int.toNat (IntKind.wrap IntKind.i64 (Int.tmod (IntKind.wrap IntKind.u64 i20) (IntKind.wrap IntKind.u64 (↑(ByteArray.size w1) : Int))))) == 32) (∃ w51 w52, C 9 [IV.d (D.int IntKind.i64 w18)] = some (IV.d (D.int IntKind.i64 w51), [IV.d w52]) ∧ condW (w51 == 1700) (∃ w53 w54, C 9 [IV.d (D.int IntKind.i64 w28)] = some (IV.d (D.int IntKind.i64 w53), [IV.d w54]) ∧ condW (w53 == 1700) (∃ w55 w56, C 9 [IV.d (D.int IntKind.i64 w38)] = some (IV.d (D.int IntKind.i64 w55), [IV.d w56]) ∧ condW (w55 == 1700) (∃ w57 w58, C 9 [IV.d (D.int IntKind.i64 w48)] = some (IV.d (D.int IntKind.i64 w57), [IV.d w58]) ∧ condW (w57 == 1700) (Q (some (IV.d (D.bool true), [IV.d (D.sl 4 z1 x2 e3), IV.d (D.agg [D.int IntKind.i64 i4, D.int IntKind.i64 i5, D.int IntKind.i64 i6, D.int IntKind.i64 i7, D.int IntKind.i64 i8, D.int IntKind.i64 i9, D.int IntKind.i64 i10, D.sl 2 z11 x12 e13, D.sl 1 z14 x15 e16, D.sl 2 z17 x18 e19]), IV.d (D.int IntKind.i64 i20)]))) (Q (some (IV.d (D.bool false), [IV.d (D.sl 4 z1 x2 e3), IV.d (D.agg [D.int IntKind.i64 i4, D.int IntKind.i64 i5, D.int IntKind.i64 i6, D.int IntKind.i64 i7, D.int IntKind.i64 i8, D.int IntKind.i64 i9, D.int IntKind.i64 i10, D.sl 2 z11 x12 e13, D.sl 1 z14 x15 e16, D.sl 2 z17 x18 e19]), IV.d (D.int IntKind.i64 i20)])))) (Q (some (IV.d (D.bool false), [IV.d (D.sl 4 z1 x2 e3), IV.d (D.agg [D.int IntKind.i64 i4, D.int IntKind.i64 i5, D.int IntKind.i64 i6, D.int IntKind.i64 i7, D.int IntKind.i64 i8, D.int IntKind.i64 i9, D.int IntKind.i64 i10, D.sl 2 z11 x12 e13, D.sl 1 z14 x15 e16, D.sl 2 z17 x18 e19]), IV.d (D.int IntKind.i64 i20)])))) (Q (some (IV.d (D.bool false), [IV.d (D.sl 4 z1 x2 e3), IV.d (D.agg [D.int IntKind.i64 i4, D.int IntKind.i64 i5, D.int IntKind.i64 i6, D.int IntKind.i64 i7, D.int IntKind.i64 i8, D.int IntKind.i64 i9, D.int IntKind.i64 i10, D.sl 2 z11 x12 e13, D.sl 1 z14 x15 e16, D.sl 2 z17 x18 e19]), IV.d (D.int IntKind.i64 i20)])))) (Q (some (IV.d (D.bool false), [IV.d (D.sl 4 z1 x2 e3), IV.d (D.agg [D.int IntKind.i64 i4, D.int IntKind.i64 i5, D.int IntKind.i64 i6, D.int IntKind.i64 i7, D.int IntKind.i64 i8, D.int IntKind.i64 i9, D.int IntKind.i64 i10, D.sl 2 z11 x12 e13, D.sl 1 z14 x15 e16, D.sl 2 z17 x18 e19]), IV.d (D.int IntKind.i64 i20)])))) (condW (IntKind.wrap IntKind.i64 (Int.tmod (IntKind.wrap IntKind.u64 i20) (IntKind.wrap IntKind.u64 (↑(ByteArray.size w1) : Int))) == 0) (∃ w59 w60, C 9 [IV.d (D.int IntKind.i64 w18)] = some (IV.d (D.int IntKind.i64 w59), [IV.d w60]) ∧ condW (w59 == 1700) (∃ w61 w62, C 9 [IV.d (D.int IntKind.i64 w28)] = some (IV.d (D.int IntKind.i64 w61), [IV.d w62]) ∧ condW (w61 == 1700) (∃ w63 w64, C 9 [IV.d (D.int IntKind.i64 w38)] = some (IV.d (D.int IntKind.i64 w63), [IV.d w64]) ∧ condW (w63 == 1700) (∃ w65 w66, C 9 [IV.d (D.int IntKind.i64 w48)] = some (IV.d (D.int IntKind.i64 w65), [IV.d w66]) ∧ condW (w65 == 1700) (Q (some (IV.d (D.bool true), [IV.d (D.sl 4 z1 x2 e3), IV.d (D.agg [D.int IntKind.i64 i4, D.int IntKind.i64 i5, D.int IntKind.i64 i6, D.int IntKind.i64 i7, D.int IntKind.i64 i8, D.int IntKind.i64 i9, D.int IntKind.i64 i10, D.sl 2 z11 x12 e13, D.sl 1 z14 x15 e16, D.sl 2 z17 x18 e19]), IV.d (D.int IntKind.i64 i20)]))) (Q (some (IV.d (D.bool false), [IV.d (D.sl 4 z1 x2 e3), IV.d (D.agg [D.int IntKind.i64 i4, D.int IntKind.i64 i5, D.int IntKind.i64 i6, D.int IntKind.i64 i7, D.int IntKind.i64 i8, D.int IntKind.i64 i9, D.int IntKind.i64 i10, D.sl 2 z11 x12 e13, D.sl 1 z14 x15 e16, D.sl 2 z17 x18 e19]), IV.d (D.int IntKind.i64 i20)])))) (Q (some (IV.d (D.bool false), [IV.d (D.sl 4 z1 x2 e3), IV.d (D.agg [D.int IntKind.i64 i4, D.int IntKind.i64 i5, D.int IntKind.i64 i6, D.int IntKind.i64 i7, D.int IntKind.i64 i8, D.int IntKind.i64 i9, D.int IntKind.i64 i10, D.sl 2 z11 x12 e13, D.sl 1 z14 x15 e16, D.sl 2 z17 x18 e19]), IV.d (D.int IntKind.i64 i20)])))) (Q (some (IV.d (D.bool false), [IV.d (D.sl 4 z1 x2 e3), IV.d (D.agg [D.int IntKind.i64 i4, D.int IntKind.i64 i5, D.int IntKind.i64 i6, D.int IntKind.i64 i7, D.int IntKind.i64 i8, D.int IntKind.i64 i9, D.int IntKind.i64 i10, D.sl 2 z11 x12 e13, D.sl 1 z14 x15 e16, D.sl 2 z17 x18 e19]), IV.d (D.int IntKind.i64 i20)])))) (Q (some (IV.d (D.bool false), [IV.d (D.sl 4 z1 x2 e3), IV.d (D.agg [D.int IntKind.i64 i4, D.int IntKind.i64 i5, D.int IntKind.i64 i6, D.int IntKind.i64 i7, D.int IntKind.i64 i8, D.int IntKind.i64 i9, D.int IntKind.i64 i10, D.sl 2 z11 x12 e13, D.sl 1 z14 x15 e16, D.sl 2 z17 x18 e19]), IV.d (D.int IntKind.i64 i20)])))) (condW (decide (0 ≤ IntKind.wrap IntKind.i64 (IntKind.wrap IntKind.i64 (Int.tmod (IntKind.wrap IntKind.u64 i20) (IntKind.wrap IntKind.u64 (↑(ByteArray.size w1) : Int))) - 1))) (condW (decide (IntKind.wrap IntKind.i64 (IntKind.wrap IntKind.i64 (Int.tmod (IntKind.wrap IntKind.u64 i20) (IntKind.wrap IntKind.u64 (↑(ByteArray.size w1) : Int))) - 1) < (↑(ByteArray.size w1) : Int))) (condW (byteAt w1 (Int.toNat (IntKind.wrap IntKind.i64 (IntKind.wrap IntKind.i64 (Int.tmod (IntKind.wrap IntKind.u64 i20) (IntKind.wrap IntKind.u64 (↑(ByteArray.size w1) : Int))) - 1))) == 32) (∃ w67 w68, C 9 [IV.d (D.int IntKind.i64 w18)] = some (IV.d (D.int IntKind.i64 w67), [IV.d w68]) ∧ condW (w67 == 1700) (∃ w69 w70, C 9 [IV.d (D.int IntKind.i64 w28)] = some (IV.d (D.int IntKind.i64 w69), [IV.d w70]) ∧ condW (w69 == 1700) (∃ w71 w72, C 9 [IV.d (D.int IntKind.i64 w38)] = some (IV.d (D.int IntKind.i64 w71), [IV.d w72]) ∧ condW (w71 == 1700) (∃ w73 w74, C 9 [IV.d (D.int IntKind.i64 w48)] = some (IV.d (D.int IntKind.i64 w73), [IV.d w74]) ∧ condW (w73 == 1700) (Q (some (IV.d (D.bool true), [IV.d (D.sl 4 z1 x2 e3), IV.d (D.agg [D.int IntKind.i64 i4, D.int IntKind.i64 i5, D.int IntKind.i64 i6, D.int IntKind.i64 i7, D.int IntKind.i64 i8, D.int IntKind.i64 i9, D.int IntKind.i64 i10, D.sl 2 z11 x12 e13, D.sl 1 z14 x15 e16, D.sl 2 z17 x18 e19]), IV.d (D.int IntKind.i64 i20)]))) (Q (some (IV.d (D.bool false), [IV.d (D.sl 4 z1 x2 e3), IV.d (D.agg [D.int IntKind.i64 i4, D.int IntKind.i64 i5, D.int IntKind.i64 i6, D.int IntKind.i64 i7, D.int IntKind.i64 i8, D.int IntKind.i64 i9, D.int IntKind.i64 i10, D.sl 2 z11 x12 e13, D.sl 1 z14 x15 e16, D.sl 2 z17 x18 e19]), IV.d (D.int IntKind.i64 i20)])))) (Q (some (IV.d (D.bool false), [IV.d (D.sl 4 z1 x2 e3), IV.d (D.agg [D.int IntKind.i64 i4, D.int IntKind.i64 i5, D.int IntKind.i64 i6, D.int IntKind.i64 i7, D.int IntKind.i64 i8, D.int IntKind.i64 i9, D.int IntKind.i64 i10, D.sl 2 z11 x12 e13, D.sl 1 z14 x15 e16, D.sl 2 z17 x18 e19]), IV.d (D.int IntKind.i64 i20)])))) (Q (some (IV.d (D.bool false), [IV.d (D.sl 4 z1 x2 e3), IV.d (D.agg [D.int IntKind.i64 i4, D.int IntKind.i64 i5, D.int IntKind.i64 i6, D.int IntKind.i64 i7, D.int IntKind.i64 i8, D.int IntKind.i64 i9, D.int IntKind.i64 i10, D.sl 2 z11 x12 e13, D.sl 1 z14 x15 e16, D.sl 2 z17 x18 e19]), IV.d (D.int IntKind.i64 i20)])))) (Q (some (IV.d (D.bool false), [IV.d (D.sl 4 z1 x2 e3), IV.d (D.agg [D.int IntKind.i64 i4, D.int IntKind.i64 i5, D.int IntKind.i64 i6, D.int IntKind.i64 i7, D.int IntKind.i64 i8, D.int IntKind.i64 i9, D.int IntKind.i64 i10, D.sl 2 z11 x12 e13, D.sl 1 z14 x15 e16, D.sl 2 z17 x18 e19]), IV.d (D.int IntKind.i64 i20)])))) (∃ w75 w76, C 9 [IV.d (D.int IntKind.i64 w28)] = some (IV.d (D.int IntKind.i64 w75), [IV.d w76]) ∧ condW (w75 == 1700) (∃ w77 w78, C 9 [IV.d (D.int IntKind.i64 w38)] = some (IV.d (D.int IntKind.i64 w77), [IV.d w78]) ∧ condW (w77 == 1700) (∃ w79 w80, C 9 [IV.d (D.int IntKind.i64 w48)] = some (IV.d (D.int IntKind.i64 w79), [IV.d w80]) ∧ condW (w79 == 1700) (Q (some (IV.d (D.bool true), [IV.d (D.sl 4 z1 x2 e3), IV.d (D.agg [D.int IntKind.i64 i4, D.int IntKind.i64 i5, D.int IntKind.i64 i6, D.int IntKind.i64 i7, D.int IntKind.i64 i8, D.int IntKind.i64 i9, D.int IntKind.i64 i10, D.sl 2 z11 x12 e13, D.sl 1 z14 x15 e16, D.sl 2 z17 x18 e19]), IV.d (D.int IntKind.i64 i20)]))) (Q (some (IV.d (D.bool false), [IV.d (D.sl 4 z1 x2 e3), IV.d (D.agg [D.int IntKind.i64 i4, D.int IntKind.i64 i5, D.int IntKind.i64 i6, D.int IntKind.i64 i7, D.int IntKind.i64 i8, D.int IntKind.i64 i9, D.int IntKind.i64 i10, D.sl 2 z11 x12 e13, D.sl 1 z14 x15 e16, D.sl 2 z17 x18 e19]), IV.d (D.int IntKind.i64 i20)])))) (Q (some (IV.d (D.bool false), [IV.d (D.sl 4 z1 x2 e3), IV.d (D.agg [D.int IntKind.i64 i4, D.int IntKind.i64 i5, D.int IntKind.i64 i6, D.int IntKind.i64 i7, D.int IntKind.i64 i8, D.int IntKind.i64 i9, D.int IntKind.i64 i10, D.sl 2 z11 x12 e13, D.sl 1 z14 x15 e16, D.sl 2 z17 x18 e19]), IV.d (D.int IntKind.i64 i20)])))) (Q (some (IV.d (D.bool false), [IV.d (D.sl 4 z1 x2 e3), IV.d (D.agg [D.int IntKind.i64 i4, D.int IntKind.i64 i5, D.int IntKind.i64 i6, D.int IntKind.i64 i7, D.int IntKind.i64 i8, D.int IntKind.i64 i9, D.int IntKind.i64 i10, D.sl 2 z11 x12 e13, D.sl 1 z14 x15 e16, D.sl 2 z17 x18 e19]), IV.d (D.int IntKind.i64 i20)]))))) False) False))) False) False) ∨ ∃ w81 w82 w83 w84 w85 w86 w87 w88 w89 w90 w91 w92 w93 w94 w95 w96, C 11 [IV.d (D.sl 4 z1 x2 e3), IV.d (D.str (w1 ++ { data := #[32, 48] }))] = some (IV.tup [IV.agg [IV.d (D.int IntKind.i64 w81), IV.d (D.int IntKind.i64 w82), IV.d (D.int IntKind.i64 w83), IV.d (D.int IntKind.i64 w84), IV.d (D.int IntKind.i64 w85), IV.d (D.int IntKind.i64 w86), IV.d (D.int IntKind.i64 w87), IV.own w88 44 2 w89, IV.own w90 42 1 w91, IV.own w92 44 2 w93], IV.d (D.int IntKind.i64 w94)], [IV.d w95, IV.d w96]) ∧ condW (decide (0 ≤ IntKind.wrap IntKind.i64 (Int.tmod (IntKind.wrap IntKind.u64 i20) (IntKind.wrap IntKind.u64 (↑(ByteArray.size w1) : Int))))) (condW (decide (IntKind.wrap IntKind.i64 (Int.tmod (IntKind.wrap IntKind.u64 i20) (IntKind.wrap IntKind.u64 (↑(ByteArray.size w1) : Int))) < (↑(ByteArray.size w1) : Int))) (condW (byteAt w1 (Int.toNat (IntKind.wrap IntKind.i64 (Int.tmod (IntKind.wrap IntKind.u64 i20) (IntKind.wrap IntKind.u64 (↑(ByteArray.size w1) : Int))))) == 32) (∃ w97 w98, C 9 [IV.d (D.int IntKind.i64 w18)] = some (IV.d (D.int IntKind.i64 w97), [IV.d w98]) ∧ condW (w97 == 1700) (∃ w99 w100, C 9 [IV.d (D.int IntKind.i64 w28)] = some (IV.d (D.int IntKind.i64 w99), [IV.d w100]) ∧ condW (w99 == 1700) (∃ w101 w102, C 9 [IV.d (D.int IntKind.i64 w38)] = some (IV.d (D.int IntKind.i64 w101), [IV.d w102]) ∧ condW (w101 == 1700) (∃ w103 w104, C 9 [IV.d (D.int IntKind.i64 w94)] = some (IV.d (D.int IntKind.i64 w103), [IV.d w104]) ∧ condW (w103 == 1700) (Q (some (IV.d (D.bool true), [IV.d (D.sl 4 z1 x2 e3), IV.d (D.agg [D.int IntKind.i64 i4, D.int IntKind.i64 i5, D.int IntKind.i64 i6, D.int IntKind.i64 i7, D.int IntKind.i64 i8, D.int IntKind.i64 i9, D.int IntKind.i64 i10, D.sl 2 z11 x12 e13, D.sl 1 z14 x15 e16, D.sl 2 z17 x18 e19]), IV.d (D.int IntKind.i64 i20)]))) (Q (some (IV.d (D.bool false), [IV.d (D.sl 4 z1 x2 e3), IV.d (D.agg [D.int IntKind.i64 i4, D.int IntKind.i64 i5, D.int IntKind.i64 i6, D.int IntKind.i64 i7, D.int IntKind.i64 i8, D.int IntKind.i64 i9, D.int IntKind.i64 i10, D.sl 2 z11 x12 e13, D.sl 1 z14 x15 e16, D.sl 2 z17 x18 e19]), IV.d (D.int IntKind.i64 i20)])))) (Q (some (IV.d (D.bool false), [IV.d (D.sl 4 z1 x2 e3), IV.d (D.agg [D.int IntKind.i64 i4, D.int IntKind.i64 i5, D.int IntKind.i64 i6, D.int IntKind.i64 i7, D.int IntKind.i64 i8, D.int IntKind.i64 i9, D.int IntKind.i64 i10, D.sl 2 z11 x12 e13, D.sl 1 z14 x15 e16, D.sl 2 z17 x18 e19]), IV.d (D.int IntKind.i64 i20)])))) (Q (some (IV.d (D.bool false), [IV.d (D.sl 4 z1 x2 e3), IV.d (D.agg [D.int IntKind.i64 i4, D.int IntKind.i64 i5, D.int IntKind.i64 i6, D.int IntKind.i64 i7, D.int IntKind.i64 i8, D.int IntKind.i64 i9, D.int IntKind.i64 i10, D.sl 2 z11 x12 e13, D.sl 1 z14 x15 e16, D.sl 2 z17 x18 e19]), IV.d (D.int IntKind.i64 i20)])))) (Q (some (IV.d (D.bool false), [IV.d (D.sl 4 z1 x2 e3), IV.d (D.agg [D.int IntKind.i64 i4, D.int IntKind.i64 i5, D.int IntKind.i64 i6, D.int IntKind.i64 i7, D.int IntKind.i64 i8, D.int IntKind.i64 i9, D.int IntKind.i64 i10, D.sl 2 z11 x12 e13, D.sl 1 z14 x15 e16, D.sl 2 z17 x18 e19]), IV.d (D.int IntKind.i64 i20)])))) (condW (IntKind.wrap IntKind.i64 (Int.tmod (IntKind.wrap IntKind.u64 i20) (IntKind.wrap IntKind.u64 (↑(ByteArray.size w1) : Int))) == 0) (∃ w105 w106, C 9 [IV.d (D.int IntKind.i64 w18)] = some (IV.d (D.int IntKind.i64 w105), [IV.d w106]) ∧ condW (w105 == 1700) (∃ w107 w108, C 9 [IV.d (D.int IntKind.i64 w28)] = some (IV.d (D.int IntKind.i64 w107), [IV.d w108]) ∧ condW (w107 == 1700) (∃ w109 w110, C 9 [IV.d (D.int IntKind.i64 w38)] = some (IV.d (D.int IntKind.i64 w109), [IV.d w110]) ∧ condW (w109 == 1700) (∃ w111 w112, C 9 [IV.d (D.int IntKind.i64 w94)] = some (IV.d (D.int IntKind.i64 w111), [IV.d w112]) ∧ condW (w111 == 1700) (Q (some (IV.d (D.bool true), [IV.d (D.sl 4 z1 x2 e3), IV.d (D.agg [D.int IntKind.i64 i4, D.int IntKind.i64 i5, D.int IntKind.i64 i6, D.int IntKind.i64 i7, D.int IntKind.i64 i8, D.int IntKind.i64 i9, D.int IntKind.i64 i10, D.sl 2 z11 x12 e13, D.sl 1 z14 x15 e16, D.sl 2 z17 x18 e19]), IV.d (D.int IntKind.i64 i20)]))) (Q (some (IV.d (D.bool false), [IV.d (D.sl 4 z1 x2 e3), IV.d (D.agg [D.int IntKind.i64 i4, D.int IntKind.i64 i5, D.int IntKind.i64 i6, D.int IntKind.i64 i7, D.int IntKind.i64 i8, D.int IntKind.i64 i9, D.int IntKind.i64 i10, D.sl 2 z11 x12 e13, D.sl 1 z14 x15 e16, D.sl 2 z17 x18 e19]), IV.d (D.int IntKind.i64 i20)])))) (Q (some (IV.d (D.bool false), [IV.d (D.sl 4 z1 x2 e3), IV.d (D.agg [D.int IntKind.i64 i4, D.int IntKind.i64 i5, D.int IntKind.i64 i6, D.int IntKind.i64 i7, D.int IntKind.i64 i8, D.int IntKind.i64 i9, D.int IntKind.i64 i10, D.sl 2 z11 x12 e13, D.sl 1 z14 x15 e16, D.sl 2 z17 x18 e19]), IV.d (D.int IntKind.i64 i20)])))) (Q (some (IV.d (D.bool false), [IV.d (D.sl 4 z1 x2 e3), IV.d (D.agg [D.int IntKind.i64 i4, D.int IntKind.i64 i5, D.int IntKind.i64 i6, D.int IntKind.i64 i7, D.int IntKind.i64 i8, D.int IntKind.i64 i9, D.int IntKind.i64 i10, D.sl 2 z11 x12 e13, D.sl 1 z14 x15 e16, D.sl 2 z17 x18 e19]), IV.d (D.int IntKind.i64 i20)])))) (Q (some (IV.d (D.bool false), [IV.d (D.sl 4 z1 x2 e3), IV.d (D.agg [D.int IntKind.i64 i4, D.int IntKind.i64 i5, D.int IntKind.i64 i6, D.int IntKind.i64 i7, D.int IntKind.i64 i8, D.int IntKind.i64 i9, D.int IntKind.i64 i10, D.sl 2 z11 x12 e13, D.sl 1 z14 x15 e16, D.sl 2 z17 x18 e19]), IV.d (D.int IntKind.i64 i20)])))) (condW (decide (0 ≤ IntKind.wrap IntKind.i64 (IntKind.wrap IntKind.i64 (Int.tmod (IntKind.wrap IntKind.u64 i20) (IntKind.wrap IntKind.u64 (↑(ByteArray.size w1) : Int))) - 1))) (condW (decide (IntKind.wrap IntKind.i64 (IntKind.wrap IntKind.i64 (Int.tmod (IntKind.wrap IntKind.u64 i20) (IntKind.wrap IntKind.u64 (↑(ByteArray.size w1) : Int))) - 1) < (↑(ByteArray.size w1) : Int))) (condW (byteAt w1 (Int.toNat (IntKind.wrap IntKind.i64 (IntKind.wrap IntKind.i64 (Int.tmod (IntKind.wrap IntKind.u64 i20) (IntKind.wrap IntKind.u64 (↑(ByteArray.size w1) : Int))) - 1))) == 32) (∃ w113 w114, C 9 [IV.d (D.int IntKind.i64 w18)] = some (IV.d (D.int IntKind.i64 w113), [IV.d w114]) ∧ condW (w113 == 1700) (∃ w115 w116, C 9 [IV.d (D.int IntKind.i64 w28)] = some (IV.d (D.int IntKind.i64 w115), [IV.d w116]) ∧ condW (w115 == 1700) (∃ w117 w118, C 9 [IV.d (D.int IntKind.i64 w38)] = some (IV.d (D.int IntKind.i64 w117), [IV.d w118]) ∧ condW (w117 == 1700) (∃ w119 w120, C 9 [IV.d (D.int IntKind.i64 w94)] = some (IV.d (D.int IntKind.i64 w119), [IV.d w120]) ∧ condW (w119 == 1700) (Q (some (IV.d (D.bool true), [IV.d (D.sl 4 z1 x2 e3), IV.d (D.agg [D.int IntKind.i64 i4, D.int IntKind.i64 i5, D.int IntKind.i64 i6, D.int IntKind.i64 i7, D.int IntKind.i64 i8, D.int IntKind.i64 i9, D.int IntKind.i64 i10, D.sl 2 z11 x12 e13, D.sl 1 z14 x15 e16, D.sl 2 z17 x18 e19]), IV.d (D.int IntKind.i64 i20)]))) (Q (some (IV.d (D.bool false), [IV.d (D.sl 4 z1 x2 e3), IV.d (D.agg [D.int IntKind.i64 i4, D.int IntKind.i64 i5, D.int IntKind.i64 i6, D.int IntKind.i64 i7, D.int IntKind.i64 i8, D.int IntKind.i64 i9, D.int IntKind.i64 i10, D.sl 2 z11 x12 e13, D.sl 1 z14 x15 e16, D.sl 2 z17 x18 e19]), IV.d (D.int IntKind.i64 i20)])))) (Q (some (IV.d (D.bool false), [IV.d (D.sl 4 z1 x2 e3), IV.d (D.agg [D.int IntKind.i64 i4, D.int IntKind.i64 i5, D.int IntKind.i64 i6, D.int IntKind.i64 i7, D.int IntKind.i64 i8, D.int IntKind.i64 i9, D.int IntKind.i64 i10, D.sl 2 z11 x12 e13, D.sl 1 z14 x15 e16, D.sl 2 z17 x18 e19]), IV.d (D.int IntKind.i64 i20)])))) (Q (some (IV.d (D.bool false), [IV.d (D.sl 4 z1 x2 e3), IV.d (D.agg [D.int IntKind.i64 i4, D.int IntKind.i64 i5, D.int IntKind.i64 i6, D.int IntKind.i64 i7, D.int IntKind.i64 i8, D.int IntKind.i64 i9, D.int IntKind.i64 i10, D.sl 2 z11 x12 e13, D.sl 1 z14 x15 e16, D.sl 2 z17 x18 e19]), IV.d (D.int IntKind.i64 i20)])))) (Q (some (IV.d (D.bool false), [IV.d (D.sl 4 z1 x2 e3), IV.d (D.agg [D.int IntKind.i64 i4, D.int IntKind.i64 i5, D.int IntKind.i64 i6, D.int IntKind.i64 i7, D.int IntKind.i64 i8, D.int IntKind.i64 i9, D.int IntKind.i64 i10, D.sl 2 z11 x12 e13, D.sl 1 z14 x15 e16, D.sl 2 z17 x18 e19]), IV.d (D.int IntKind.i64 i20)])))) (∃ w121 w122, C 9 [IV.d (D.int IntKind.i64 w28)] = some (IV.d (D.int IntKind.i64 w121), [IV.d w122]) ∧ condW (w121 == 1700) (∃ w123 w124, C 9 [IV.d (D.int IntKind.i64 w38)] = some (IV.d (D.int IntKind.i64 w123), [IV.d w124]) ∧ condW (w123 == 1700) (∃ w125 w126, C 9 [IV.d (D.int IntKind.i64 w94)] = some (IV.d (D.int IntKind.i64 w125), [IV.d w126]) ∧ condW (w125 == 1700) (Q (some (IV.d (D.bool true), [IV.d (D.sl 4 z1 x2 e3), IV.d (D.agg [D.int IntKind.i64 i4, D.int IntKind.i64 i5, D.int IntKind.i64 i6, D.int IntKind.i64 i7, D.int IntKind.i64 i8, D.int IntKind.i64 i9, D.int IntKind.i64 i10, D.sl 2 z11 x12 e13, D.sl 1 z14 x15 e16, D.sl 2 z17 x18 e19]), IV.d (D.int IntKind.i64 i20)]))) (Q (some (IV.d (D.bool false), [IV.d (D.sl 4 z1 x2 e3), IV.d (D.agg [D.int IntKind.i64 i4, D.int IntKind.i64 i5, D.int IntKind.i64 i6, D.int IntKind.i64 i7, D.int IntKind.i64 i8, D.int IntKind.i64 i9, D.int IntKind.i64 i10, D.sl 2 z11 x12 e13, D.sl 1 z14 x15 e16, D.sl 2 z17 x18 e19]), IV.d (D.int IntKind.i64 i20)])))) (Q (some (IV.d (D.bool false), [IV.d (D.sl 4 z1 x2 e3), IV.d (D.agg [D.int IntKind.i64 i4, D.int IntKind.i64 i5, D.int IntKind.i64 i6, D.int IntKind.i64 i7, D.int IntKind.i64 i8, D.int IntKind.i64 i9, D.int IntKind.i64 i10, D.sl 2 z11 x12 e13, D.sl 1 z14 x15 e16, D.sl 2 z17 x18 e19]), IV.d (D.int IntKind.i64 i20)])))) (Q (some (IV.d (D.bool false), [IV.d (D.sl 4 z1 x2 e3), IV.d (D.agg [D.int IntKind.i64 i4, D.int IntKind.i64 i5, D.int IntKind.i64 i6, D.int IntKind.i64 i7, D.int IntKind.i64 i8, D.int IntKind.i64 i9, D.int IntKind.i64 i10, D.sl 2 z11 x12 e13, D.sl 1 z14 x15 e16, D.sl 2 z17 x18 e19]), IV.d (D.int IntKind.i64 i20)]))))) False) False))) False) False) False) ∨ ∃ w127 w128 w129 w130 w131 w132 w133 w134 w135 w136 w137 w138 w139 w140 w141 w142, C 11 [IV.d (D.sl 4 z1 x2 e3), IV.d (D.str ({ data := #[48] } ++ w1))] = some (IV.tup [IV.agg [IV.d (D.int IntKind.i64 w127), IV.d (D.int IntKind.i64 w128), IV.d (D.int IntKind.i64 w129), IV.d (D.int IntKind.i64 w130), IV.d (D.int IntKind.i64 w131), IV.d (D.int IntKind.i64 w132), IV.d (D.int IntKind.i64 w133), IV.own w134 44 2 w135, IV.own w136 42 1 w137, IV.own w138 44 2 w139], IV.d (D.int IntKind.i64 w140)], [IV.d w141, IV.d w142]) ∧ condW (decide (ByteArray.size w1 + ByteArray.size { data := #[32, 48] } ≤ 9223372036854775807)) ((∃ w143 w144 w145 w146 w147 w148 w149 w150 w151 w152, C 11 [IV.d (D.sl 4 z1 x2 e3), IV.d (D.str (w1 ++ { data := #[32, 48] }))] = some (IV.tup [IV.d (D.agg [D.int IntKind.i64 w143, D.int IntKind.i64 w144, D.int IntKind.i64 w145, D.int IntKind.i64 w146, D.int IntKind.i64 w147, D.int IntKind.i64 w148, D.int IntKind.i64 w149, D.sl 2 true [] [], D.sl 1 true [] [], D.sl 2 true [] []]), IV.d (D.int IntKind.i64 w150)], [IV.d w151, IV.d w152]) ∧ condW (decide (0 ≤ IntKind.wrap IntKind.i64 (Int.tmod (IntKind.wrap IntKind.u64 i20) (IntKind.wrap IntKind.u64 (↑(ByteArray.size w1) : Int))))) (condW (decide (IntKind.wrap IntKind.i64 (Int.tmod (IntKind.wrap IntKind.u64 i20) (IntKind.wrap IntKind.u64 (↑(ByteArray.size w1) : Int))) < (↑(ByteArray.size w1) : Int))) (condW (byteAt w1 (Int.toNat (IntKind.wrap IntKind.i64 (Int.tmod (IntKind.wrap IntKind.u64 i20) (IntKind.wrap IntKind.u64 (↑(ByteArray.size w1) : Int))))) == 32) (∃ w153 w154, C 9 [IV.d (D.int IntKind.i64 w18)] = some (IV.d (D.int IntKind.i64 w153), [IV.d w154]) ∧ condW (w153 == 1700) (∃ w155 w156, C 9 [IV.d (D.int IntKind.i64 w28)] = some (IV.d (D.int IntKind.i64 w155), [IV.d w156]) ∧ condW (w155 == 1700) (∃ w157 w158, C 9 [IV.d (D.int IntKind.i64 w140)] = some (IV.d (D.int IntKind.i64 w157), [IV.d w158]) ∧ condW (w157 == 1700) (∃ w159 w160, C 9 [IV.d (D.int IntKind.i64 w150)] = some (IV.d (D.int IntKind.i64 w159), [IV.d w160]) ∧ condW (w159 == 1700) (Q (some (IV.d (D.bool true), [IV.d (D.sl 4 z1 x2 e3), IV.d (D.agg [D.int IntKind.i64 i4, D.int IntKind.i64 i5, D.int IntKind.i64 i6, D.int IntKind.i64 i7, D.int IntKind.i64 i8, D.int IntKind.i64 i9, D.int IntKind.i64 i10, D.sl 2 z11 x12 e13, D.sl 1 z14 x15 e16, D.sl 2 z17 x18 e19]), IV.d (D.int IntKind.i64 i20)]))) (Q (some (IV.d (D.bool false), [IV.d (D.sl 4 z1 x2 e3), IV.d (D.agg [D.int IntKind.i64 i4, D.int IntKind.i64 i5, D.int IntKind.i64 i6, D.int IntKind.i64 i7, D.int IntKind.i64 i8, D.int IntKind.i64 i9, D.int IntKind.i64 i10, D.sl 2 z11 x12 e13, D.sl 1 z14 x15 e16, D.sl 2 z17 x18 e19]), IV.d (D.int IntKind.i64 i20)])))) (Q (some (IV.d (D.bool false), [IV.d (D.sl 4 z1 x2 e3), IV.d (D.agg [D.int IntKind.i64 i4, D.int IntKind.i64 i5, D.int IntKind.i64 i6, D.int IntKind.i64 i7, D.int IntKind.i64 i8, D.int IntKind.i64 i9, D.int IntKind.i64 i10, D.sl 2 z11 x12 e13, D.sl 1 z14 x15 e16, D.sl 2 z17 x18 e19]), IV.d (D.int IntKind.i64 i20)])))) (Q (some (IV.d (D.bool false), [IV.d (D.sl 4 z1 x2 e3), IV.d (D.agg [D.int IntKind.i64 i4, D.int IntKind.i64 i5, D.int IntKind.i64 i6, D.int IntKind.i64 i7, D.int IntKind.i64 i8, D.int IntKind.i64 i9, D.int IntKind.i64 i10, D.sl 2 z11 x12 e13, D.sl 1 z14 x15 e16, D.sl 2 z17 x18 e19]), IV.d (D.int IntKind.i64 i20)])))) (Q (some (IV.d (D.bool false), [IV.d (D.sl 4 z1 x2 e3), IV.d (D.agg [D.int IntKind.i64 i4, D.int IntKind.i64 i5, D.int IntKind.i64 i6, D.int IntKind.i64 i7, D.int IntKind.i64 i8, D.int IntKind.i64 i9, D.int IntKind.i64 i10, D.sl 2 z11 x12 e13, D.sl 1 z14 x15 e16, D.sl 2 z17 x18 e19]), IV.d (D.int IntKind.i64 i20)])))) (condW (IntKind.wrap IntKind.i64 (Int.tmod (IntKind.wrap IntKind.u64 i20) (IntKind.wrap IntKind.u64 (↑(ByteArray.size w1) : Int))) == 0) (∃ w161 w162, C 9 [IV.d (D.int IntKind.i64 w18)] = some (IV.d (D.int IntKind.i64 w161), [IV.d w162]) ∧ condW (w161 == 1700) (∃ w163 w164, C 9 [IV.d (D.int IntKind.i64 w28)] = some (IV.d (D.int IntKind.i64 w163), [IV.d w164]) ∧ condW (w163 == 1700) (∃ w165 w166, C 9 [IV.d (D.int IntKind.i64 w140)] = some (IV.d (D.int IntKind.i64 w165), [IV.d w166]) ∧ condW (w165 == 1700) (∃ w167 w168, C 9 [IV.d (D.int IntKind.i64 w150)] = some (IV.d (D.int IntKind.i64 w167), [IV.d w168]) ∧ condW (w167 == 1700) (Q (some (IV.d (D.bool true), [IV.d (D.sl 4 z1 x2 e3), IV.d (D.agg [D.int IntKind.i64 i4, D.int IntKind.i64 i5, D.int IntKind.i64 i6, D.int IntKind.i64 i7, D.int IntKind.i64 i8, D.int IntKind.i64 i9, D.int IntKind.i64 i10, D.sl 2 z11 x12 e13, D.sl 1 z14 x15 e16, D.sl 2 z17 x18 e19]), IV.d (D.int IntKind.i64 i20)]))) (Q (some (IV.d (D.bool false), [IV.d (D.sl 4 z1 x2 e3), IV.d (D.agg [D.int IntKind.i64 i4, D.int IntKind.i64 i5, D.int IntKind.i64 i6, D.int IntKind.i64 i7, D.int IntKind.i64 i8, D.int IntKind.i64 i9, D.int IntKind.i64 i10, D.sl 2 z11 x12 e13, D.sl 1 z14 x15 e16, D.sl 2 z17 x18 e19]), IV.d (D.int IntKind.i64 i20)])))) (Q (some (IV.d (D.bool false), [IV.d (D.sl 4 z1 x2 e3), IV.d (D.agg [D.int IntKind.i64 i4, D.int IntKind.i64 i5, D.int IntKind.i64 i6, D.int IntKind.i64 i7, D.int IntKind.i64 i8, D.int IntKind.i64 i9, D.int IntKind.i64 i10, D.sl 2 z11 x12 e13, D.sl 1 z14 x15 e16, D.sl 2 z17 x18 e19]), IV.d (D.int IntKind.i64 i20)])))) (Q (some (IV.d (D.bool false), [IV.d (D.sl 4 z1 x2 e3), IV.d (D.agg [D.int IntKind.i64 i4, D.int IntKind.i64 i5, D.int IntKind.i64 i6, D.int IntKind.i64 i7, D.int IntKind.i64 i8, D.int IntKind.i64 i9, D.int IntKind.i64 i10, D.sl 2 z11 x12 e13, D.sl 1 z14 x15 e16, D.sl 2 z17 x18 e19]), IV.d (D.int IntKind.i64 i20)])))) (Q (some (IV.d (D.bool false), [IV.d (D.sl 4 z1 x2 e3), IV.d (D.agg [D.int IntKind.i64 i4, D.int IntKind.i64 i5, D.int IntKind.i64 i6, D.int IntKind.i64 i7, D.int IntKind.i64 i8, D.int IntKind.i64 i9, D.int IntKind.i64 i10, D.sl 2 z11 x12 e13, D.sl 1 z14 x15 e16, D.sl 2 z17 x18 e19]), IV.d (D.int IntKind.i64 i20)])))) (condW (decide (0 ≤ IntKind.wrap IntKind.i64 (IntKind.wrap IntKind.i64 (Int.tmod (IntKind.wrap IntKind.u64 i20) (IntKind.wrap IntKind.u64 (↑(ByteArray.size w1) : Int))) - 1))) (condW (decide (IntKind.wrap IntKind.i64 (IntKind.wrap IntKind.i64 (Int.tmod (IntKind.wrap IntKind.u64 i20) (IntKind.wrap IntKind.u64 (↑(ByteArray.size w1) : Int))) - 1) < (↑(ByteArray.size w1) : Int))) (condW (byteAt w1 (Int.toNat (IntKind.wrap IntKind.i64 (IntKind.wrap IntKind.i64 (Int.tmod (IntKind.wrap IntKind.u64 i20) (IntKind.wrap IntKind.u64 (↑(ByteArray.size w1) : Int))) - 1))) == 32) (∃ w169 w170, C 9 [IV.d (D.int IntKind.i64 w18)] = some (IV.d (D.int IntKind.i64 w169), [IV.d w170]) ∧ condW (w169 == 1700) (∃ w171 w172, C 9 [IV.d (D.int IntKind.i64 w28)] = some (IV.d (D.int IntKind.i64 w171), [IV.d w172]) ∧ condW (w171 == 1700) (∃ w173 w174, C 9 [IV.d (D.int IntKind.i64 w140)] = some (IV.d (D.int IntKind.i64 w173), [IV.d w174]) ∧ condW (w173 == 1700) (∃ w175 w176, C 9 [IV.d (D.int IntKind.i64 w150)] = some (IV.d (D.int IntKind.i64 w175), [IV.d w176]) ∧ condW (w175 == 1700) (Q (some (IV.d (D.bool true), [IV.d (D.sl 4 z1 x2 e3), IV.d (D.agg [D.int IntKind.i64 i4, D.int IntKind.i64 i5, D.int IntKind.i64 i6, D.int IntKind.i64 i7, D.int IntKind.i64 i8, D.int IntKind.i64 i9, D.int IntKind.i64 i10, D.sl 2 z11 x12 e13, D.sl 1 z14 x15 e16, D.sl 2 z17 x18 e19]), IV.d (D.int IntKind.i64 i20)]))) (Q (some (IV.d (D.bool false), [IV.d (D.sl 4 z1 x2 e3), IV.d (D.agg [D.int IntKind.i64 i4, D.int IntKind.i64 i5, D.int IntKind.i64 i6, D.int IntKind.i64 i7, D.int IntKind.i64 i8, D.int IntKind.i64 i9, D.int IntKind.i64 i10, D.sl 2 z11 x12 e13, D.sl 1 z14 x15 e16, D.sl 2 z17 x18 e19]), IV.d (D.int IntKind.i64 i20)])))) (Q (some (IV.d (D.bool false), [IV.d (D.sl 4 z1 x2 e3), IV.d (D.agg [D.int IntKind.i64 i4, D.int IntKind.i64 i5, D.int IntKind.i64 i6, D.int IntKind.i64 i7, D.int IntKind.i64 i8, D.int IntKind.i64 i9, D.int IntKind.i64 i10, D.sl 2 z11 x12 e13, D.sl 1 z14 x15 e16, D.sl 2 z17 x18 e19]), IV.d (D.int IntKind.i64 i20)])))) (Q (some (IV.d (D.bool false), [IV.d (D.sl 4 z1 x2 e3), IV.d (D.agg [D.int IntKind.i64 i4, D.int IntKind.i64 i5, D.int IntKind.i64 i6, D.int IntKind.i64 i7, D.int IntKind.i64 i8, D.int IntKind.i64 i9, D.int IntKind.i64 i10, D.sl 2 z11 x12 e13, D.sl 1 z14 x15 e16, D.sl 2 z17 x18 e19]), IV.d (D.int IntKind.i64 i20)])))) (Q (some (IV.d (D.bool false), [IV.d (D.sl 4 z1 x2 e3), IV.d (D.agg [D.int IntKind.i64 i4, D.int IntKind.i64 i5, D.int IntKind.i64 i6, D.int IntKind.i64 i7, D.int IntKind.i64 i8, D.int IntKind.i64 i9, D.int IntKind.i64 i10, D.sl 2 z11 x12 e13, D.sl 1 z14 x15 e16, D.sl 2 z17 x18 e19]), IV.d (D.int IntKind.i64 i20)])))) (∃ w177 w178, C 9 [IV.d (D.int IntKind.i64 w28)] = some (IV.d (D.int IntKind.i64 w177), [IV.d w178]) ∧ condW (w177 == 1700) (∃ w179 w180, C 9 [IV.d (D.int IntKind.i64 w140)] = some (IV.d (D.int IntKind.i64 w179), [IV.d w180]) ∧ condW (w179 == 1700) (∃ w181 w182, C 9 [IV.d (D.int IntKind.i64 w150)] = some (IV.d (D.int IntKind.i64 w181), [IV.d w182]) ∧ condW (w181 == 1700) (Q (some (IV.d (D.bool true), [IV.d (D.sl 4 z1 x2 e3), IV.d (D.agg [D.int IntKind.i64 i4, D.int IntKind.i64 i5, D.int IntKind.i64 i6, D.int IntKind.i64 i7, D.int IntKind.i64 i8, D.int IntKind.i64 i9, D.int IntKind.i64 i10, D.sl 2 z11 x12 e13, D.sl 1 z14 x15 e16, D.sl 2 z17 x18 e19]), IV.d (D.int IntKind.i64 i20)]))) (Q (some (IV.d (D.bool false), [IV.d (D.sl 4 z1 x2 e3), IV.d (D.agg [D.int IntKind.i64 i4, D.int IntKind.i64 i5, D.int IntKind.i64 i6, D.int IntKind.i64 i7, D.int IntKind.i64 i8, D.int IntKind.i64 i9, D.int IntKind.i64 i10, D.sl 2 z11 x12 e13, D.sl 1 z14 x15 e16, D.sl 2 z17 x18 e19]), IV.d (D.int IntKind.i64 i20)])))) (Q (some (IV.d (D.bool false), [IV.d (D.sl 4 z1 x2 e3), IV.d (D.agg [D.int IntKind.i64 i4, D.int IntKind.i64 i5, D.int IntKind.i64 i6, D.int IntKind.i64 i7, D.int IntKind.i64 i8, D.int IntKind.i64 i9, D.int IntKind.i64 i10, D.sl 2 z11 x12 e13, D.sl 1 z14 x15 e16, D.sl 2 z17 x18 e19]), IV.d (D.int IntKind.i64 i20)])))) (Q (some (IV.d (D.bool false), [IV.d (D.sl 4 z1 x2 e3), IV.d (D.agg [D.int IntKind.i64 i4, D.int IntKind.i64 i5, D.int IntKind.i64 i6, D.int IntKind.i64 i7, D.int IntKind.i64 i8, D.int IntKind.i64 i9, D.int IntKind.i64 i10, D.sl 2 z11 x12 e13, D.sl 1 z14 x15 e16, D.sl 2 z17 x18 e19]), IV.d (D.int IntKind.i64 i20)]))))) False) False))) False) False) ∨ ∃ w183 w184 w185 w186 w187 w188 w189 w190 w191 w192 w193 w194 w195 w196 w197 w198, C 11 [IV.d (D.sl 4 z1 x2 e3), IV.d (D.str (w1 ++ { data := #[32, 48] }))] = some (IV.tup [IV.agg [IV.d (D.int IntKind.i64 w183), IV.d (D.int IntKind.i64 w184), IV.d (D.int IntKind.i64 w185), IV.d (D.int IntKind.i64 w186), IV.d (D.int IntKind.i64 w187), IV.d (D.int IntKind.i64 w188), IV.d (D.int IntKind.i64 w189), IV.own w190 44 2 w191, IV.own w192 42 1 w193, IV.own w194 44 2 w195], IV.d (D.int IntKind.i64 w196)], [IV.d w197, IV.d w198]) ∧ condW (decide (0 ≤ IntKind.wrap IntKind.i64 (Int.tmod (IntKind.wrap IntKind.u64 i20) (IntKind.wrap IntKind.u64 (↑(ByteArray.size w1) : Int))))) (condW (decide (IntKind.wrap IntKind.i64 (Int.tmod (IntKind.wrap IntKind.u64 i20) (IntKind.wrap IntKind.u64 (↑(ByteArray.size w1) : Int))) < (↑(ByteArray.size w1) : Int))) (condW (byteAt w1 (Int.toNat (IntKind.wrap IntKind.i64 (Int.tmod (IntKind.wrap IntKind.u64 i20) (IntKind.wrap IntKind.u64 (↑(ByteArray.size w1) : Int))))) == 32) (∃ w199 w200, C 9 [IV.d (D.int IntKind.i64 w18)] = some (IV.d (D.int IntKind.i64 w199), [IV.d w200]) ∧ condW (w199 == 1700) (∃ w201 w202, C 9 [IV.d (D.int IntKind.i64 w28)] = some (IV.d (D.int IntKind.i64 w201), [IV.d w202]) ∧ condW (w201 == 1700) (∃ w203 w204, C 9 [IV.d (D.int IntKind.i64 w140)] = some (IV.d (D.int IntKind.i64 w203), [IV.d w204]) ∧ condW (w203 == 1700) (∃ w205 w206, C 9 [IV.d (D.int IntKind.i64 w196)] = some (IV.d (D.int IntKind.i64 w205), [IV.d w206]) ∧ condW (w205 == 1700) (Q (some (IV.d (D.bool true), [IV.d (D.sl 4 z1 x2 e3), IV.d (D.agg [D.int IntKind.i64 i4, D.int IntKind.i64 i5, D.int IntKind.i64 i6, D.int IntKind.i64 i7, D.int IntKind.i64 i8, D.int IntKind.i64 i9, D.int IntKind.i64 i10, D.sl 2 z11 x12 e13, D.sl 1 z14 x15 e16, D.sl 2 z17 x18 e19]), IV.d (D.int IntKind.i64 i20)]))) (Q (some (IV.d (D.bool false), [IV.d (D.sl 4 z1 x2 e3), IV.d (D.agg [D.int IntKind.i64 i4, D.int IntKind.i64 i5, D.int IntKind.i64 i6, D.int IntKind.i64 i7, D.int IntKind.i64 i8, D.int IntKind.i64 i9, D.int IntKind.i64 i10, D.sl 2 z11 x12 e13, D.sl 1 z14 x15 e16, D.sl 2 z17 x18 e19]), IV.d (D.int IntKind.i64 i20)])))) (Q (some (IV.d (D.bool false), [IV.d (D.sl 4 z1 x2 e3), IV.d (D.agg [D.int IntKind.i64 i4, D.int IntKind.i64 i5, D.int IntKind.i64 i6, D.int IntKind.i64 i7, D.int IntKind.i64 i8, D.int IntKind.i64 i9, D.int IntKind.i64 i10, D.sl 2 z11 x12 e13, D.sl 1 z14 x15 e16, D.sl 2 z17 x18 e19]), IV.d (D.int IntKind.i64 i20)])))) (Q (some (IV.d (D.bool false), [IV.d (D.sl 4 z1 x2 e3), IV.d (D.agg [D.int IntKind.i64 i4, D.int IntKind.i64 i5, D.int IntKind.i64 i6, D.int IntKind.i64 i7, D.int IntKind.i64 i8, D.int IntKind.i64 i9, D.int IntKind.i64 i10, D.sl 2 z11 x12 e13, D.sl 1 z14 x15 e16, D.sl 2 z17 x18 e19]), IV.d (D.int IntKind.i64 i20)])))) (Q (some (IV.d (D.bool false), [IV.d (D.sl 4 z1 x2 e3), IV.d (D.agg [D.int IntKind.i64 i4, D.int IntKind.i64 i5, D.int IntKind.i64 i6, D.int IntKind.i64 i7, D.int IntKind.i64 i8, D.int IntKind.i64 i9, D.int IntKind.i64 i10, D.sl 2 z11 x12 e13, D.sl 1 z14 x15 e16, D.sl 2 z17 x18 e19]), IV.d (D.int IntKind.i64 i20)])))) (condW (IntKind.wrap IntKind.i64 (Int.tmod (IntKind.wrap IntKind.u64 i20) (IntKind.wrap IntKind.u64 (↑(ByteArray.size w1) : Int))) == 0) (∃ w207 w208, C 9 [IV.d (D.int IntKind.i64 w18)] = some (IV.d (D.int IntKind.i64 w207), [IV.d w208]) ∧ condW (w207 == 1700) (∃ w209 w210, C 9 [IV.d (D.int IntKind.i64 w28)] = some (IV.d (D.int IntKind.i64 w209), [IV.d w210]) ∧ condW (w209 == 1700) (∃ w211 w212, C 9 [IV.d (D.int IntKind.i64 w140)] = some (IV.d (D.int IntKind.i64 w211), [IV.d w212]) ∧ condW (w211 == 1700) (∃ w213 w214, C 9 [IV.d (D.int IntKind.i64 w196)] = some (IV.d (D.int IntKind.i64 w213), [IV.d w214]) ∧ condW (w213 == 1700) (Q (some (IV.d (D.bool true), [IV.d (D.sl 4 z1 x2 e3), IV.d (D.agg [D.int IntKind.i64 i4, D.int IntKind.i64 i5, D.int IntKind.i64 i6, D.int IntKind.i64 i7, D.int IntKind.i64 i8, D.int IntKind.i64 i9, D.int IntKind.i64 i10, D.sl 2 z11 x12 e13, D.sl 1 z14 x15 e16, D.sl 2 z17 x18 e19]), IV.d (D.int IntKind.i64 i20)]))) (Q (some (IV.d (D.bool false), [IV.d (D.sl 4 z1 x2 e3), IV.d (D.agg [D.int IntKind.i64 i4, D.int IntKind.i64 i5, D.int IntKind.i64 i6, D.int IntKind.i64 i7, D.int IntKind.i64 i8, D.int IntKind.i64 i9, D.int IntKind.i64 i10, D.sl 2 z11 x12 e13, D.sl 1 z14 x15 e16, D.sl 2 z17 x18 e19]), IV.d (D.int IntKind.i64 i20)])))) (Q (some (IV.d (D.bool false), [IV.d (D.sl 4 z1 x2 e3), IV.d (D.agg [D.int IntKind.i64 i4, D.int IntKind.i64 i5, D.int IntKind.i64 i6, D.int IntKind.i64 i7, D.int IntKind.i64 i8, D.int IntKind.i64 i9, D.int IntKind.i64 i10, D.sl 2 z11 x12 e13, D.sl 1 z14 x15 e16, D.sl 2 z17 x18 e19]), IV.d (D.int IntKind.i64 i20)])))) (Q (some (IV.d (D.bool false), [IV.d (D.sl 4 z1 x2 e3), IV.d (D.agg [D.int IntKind.i64 i4, D.int IntKind.i64 i5, D.int IntKind.i64 i6, D.int IntKind.i64 i7, D.int IntKind.i64 i8, D.int IntKind.i64 i9, D.int IntKind.i64 i10, D.sl 2 z11 x12 e13, D.sl 1 z14 x15 e16, D.sl 2 z17 x18 e19]), IV.d (D.int IntKind.i64 i20)])))) (Q (some (IV.d (D.bool false), [IV.d (D.sl 4 z1 x2 e3), IV.d (D.agg [D.int IntKind.i64 i4, D.int IntKind.i64 i5, D.int IntKind.i64 i6, D.int IntKind.i64 i7, D.int IntKind.i64 i8, D.int IntKind.i64 i9, D.int IntKind.i64 i10, D.sl 2 z11 x12 e13, D.sl 1 z14 x15 e16, D.sl 2 z17 x18 e19]), IV.d (D.int IntKind.i64 i20)])))) (condW (decide (0 ≤ IntKind.wrap IntKind.i64 (IntKind.wrap IntKind.i64 (Int.tmod (IntKind.wrap IntKind.u64 i20) (IntKind.wrap IntKind.u64 (↑(ByteArray.size w1) : Int))) - 1))) (condW (decide (IntKind.wrap IntKind.i64 (IntKind.wrap IntKind.i64 (Int.tmod (IntKind.wrap IntKind.u64 i20) (IntKind.wrap IntKind.u64 (↑(ByteArray.size w1) : Int))) - 1) < (↑(ByteArray.size w1) : Int))) (condW (byteAt w1 (Int.toNat (IntKind.wrap IntKind.i64 (IntKind.wrap IntKind.i64 (Int.tmod (IntKind.wrap IntKind.u64 i20) (IntKind.wrap IntKind.u64 (↑(ByteArray.size w1) : Int))) - 1))) == 32) (∃ w215 w216, C 9 [IV.d (D.int IntKind.i64 w18)] = some (IV.d (D.int IntKind.i64 w215), [IV.d w216]) ∧ condW (w215 == 1700) (∃ w217 w218, C 9 [IV.d (D.int IntKind.i64 w28)] = some (IV.d (D.int IntKind.i64 w217), [IV.d w218]) ∧ condW (w217 == 1700) (∃ w219 w220, C 9 [IV.d (D.int IntKind.i64 w140)] = some (IV.d (D.int IntKind.i64 w219), [IV.d w220]) ∧ condW (w219 == 1700) (∃ w221 w222, C 9 [IV.d (D.int IntKind.i64 w196)] = some (IV.d (D.int IntKind.i64 w221), [IV.d w222]) ∧ condW (w221 == 1700) (Q (some (IV.d (D.bool true), [IV.d (D.sl 4 z1 x2 e3), IV.d (D.agg [D.int IntKind.i64 i4, D.int IntKind.i64 i5, D.int IntKind.i64 i6, D.int IntKind.i64 i7, D.int IntKind.i64 i8, D.int IntKind.i64 i9, D.int IntKind.i64 i10, D.sl 2 z11 x12 e13, D.sl 1 z14 x15 e16, D.sl 2 z17 x18 e19]), IV.d (D.int IntKind.i64 i20)]))) (Q (some (IV.d (D.bool false), [IV.d (D.sl 4 z1 x2 e3), IV.d (D.agg [D.int IntKind.i64 i4, D.int IntKind.i64 i5, D.int IntKind.i64 i6, D.int IntKind.i64 i7, D.int IntKind.i64 i8, D.int IntKind.i64 i9, D.int IntKind.i64 i10, D.sl 2 z11 x12 e13, D.sl 1 z14 x15 e16, D.sl 2 z17 x18 e19]), IV.d (D.int IntKind.i64 i20)])))) (Q (some (IV.d (D.bool false), [IV.d (D.sl 4 z1 x2 e3), IV.d (D.agg [D.int IntKind.i64 i4, D.int IntKind.i64 i5, D.int IntKind.i64 i6, D.int IntKind.i64 i7, D.int IntKind.i64 i8, D.int IntKind.i64 i9, D.int IntKind.i64 i10, D.sl 2 z11 x12 e13, D.sl 1 z14 x15 e16, D.sl 2 z17 x18 e19]), IV.d (D.int IntKind.i64 i20)])))) (Q (some (IV.d (D.bool false), [IV.d (D.sl 4 z1 x2 e3), IV.d (D.agg [D.int IntKind.i64 i4, D.int IntKind.i64 i5, D.int IntKind.i64 i6, D.int IntKind.i64 i7, D.int IntKind.i64 i8, D.int IntKind.i64 i9, D.int IntKind.i64 i10, D.sl 2 z11 x12 e13, D.sl 1 z14 x15 e16, D.sl 2 z17 x18 e19]), IV.d (D.int IntKind.i64 i20)])))) (Q (some (IV.d (D.bool false), [IV.d (D.sl 4 z1 x2 e3), IV.d (D.agg [D.int IntKind.i64 i4, D.int IntKind.i64 i5, D.int IntKind.i64 i6, D.int IntKind.i64 i7, D.int IntKind.i64 i8, D.int IntKind.i64 i9, D.int IntKind.i64 i10, D.sl 2 z11 x12 e13, D.sl 1 z14 x15 e16, D.sl 2 z17 x18 e19]), IV.d (D.int IntKind.i64 i20)])))) (∃ w223 w224, C 9 [IV.d (D.int IntKind.i64 w28)] = some (IV.d (D.int IntKind.i64 w223), [IV.d w224]) ∧ condW (w223 == 1700) (∃ w225 w226, C 9 [IV.d (D.int IntKind.i64 w140)] = some (IV.d (D.int IntKind.i64 w225), [IV.d w226]) ∧ condW (w225 == 1700) (∃ w227 w228, C 9 [IV.d (D.int IntKind.i64 w196)] = some (IV.d (D.int IntKind.i64 w227), [IV.d w228]) ∧ condW (w227 == 1700) (Q (some (IV.d (D.bool true), [IV.d (D.sl 4 z1 x2 e3), IV.d (D.agg [D.int IntKind.i64 i4, D.int IntKind.i64 i5, D.int IntKind.i64 i6, D.int IntKind.i64 i7, D.int IntKind.i64 i8, D.int IntKind.i64 i9, D.int IntKind.i64 i10, D.sl 2 z11 x12 e13, D.sl 1 z14 x15 e16, D.sl 2 z17 x18 e19]), IV.d (D.int IntKind.i64 i20)]))) (Q (some (IV.d (D.bool false), [IV.d (D.sl 4 z1 x2 e3), IV.d (D.agg [D.int IntKind.i64 i4, D.int IntKind.i64 i5, D.int IntKind.i64 i6, D.int IntKind.i64 i7, D.int IntKind.i64 i8, D.int IntKind.i64 i9, D.int IntKind.i64 i10, D.sl 2 z11 x12 e13, D.sl 1 z14 x15 e16, D.sl 2 z17 x18 e19]), IV.d (D.int IntKind.i64 i20)])))) (Q (some (IV.d (D.bool false), [IV.d (D.sl 4 z1 x2 e3), IV.d (D.agg [D.int IntKind.i64 i4, D.int IntKind.i64 i5, D.int IntKind.i64 i6, D.int IntKind.i64 i7, D.int IntKind.i64 i8, D.int IntKind.i64 i9, D.int IntKind.i64 i10, D.sl 2 z11 x12 e13, D.sl 1 z14 x15 e16, D.sl 2 z17 x18 e19]), IV.d (D.int IntKind.i64 i20)])))) (Q (some (IV.d (D.bool false), [IV.d (D.sl 4 z1 x2 e3), IV.d (D.agg [D.int IntKind.i64 i4, D.int IntKind.i64 i5, D.int IntKind.i64 i6, D.int IntKind.i64 i7, D.int IntKind.i64 i8, D.int IntKind.i64 i9, D.int IntKind.i64 i10, D.sl 2 z11 x12 e13, D.sl 1 z14 x15 e16, D.sl 2 z17 x18 e19]), IV.d (D.int IntKind.i64 i20)]))))) False) False))) False) False) False) False) ∨ ∃ w229 w230 w231 w232 w233 w234 w235 w236 w237 w238 w239 w240 w241 w242 w243 w244, C 11 [IV.d (D.sl 4 z1 x2 e3), IV.d (D.str ({ data := #[32] } ++ w1))] = some (IV.tup [IV.agg [IV.d (D.int IntKind.i64 w229), IV.d (D.int IntKind.i64 w230), IV.d (D.int IntKind.i64 w231), IV.d (D.int IntKind.i64 w232), IV.d (D.int IntKind.i64 w233), IV.d (D.int IntKind.i64 w234), IV.d (D.int IntKind.i64 w235), IV.own w236 44 2 w237, IV.own w238 42 1 w239, IV.own w240 44 2 w241], IV.d (D.int IntKind.i64 w242)], [IV.d w243, IV.d w244]) ∧ condW (decide (ByteArray.size { data := #[48] } + ByteArray.size w1 ≤ 9223372036854775807)) ((∃ w245 w246 w247 w248 w249 w250 w251 w252 w253 w254, C 11 [IV.d (D.sl 4 z1 x2 e3), IV.d (D.str ({ data := #[48] } ++ w1))] = some (IV.tup [IV.d (D.agg [D.int IntKind.i64 w245, D.int IntKind.i64 w246, D.int IntKind.i64 w247, D.int IntKind.i64 w248, D.int IntKind.i64 w249, D.int IntKind.i64 w250, D.int IntKind.i64 w251, D.sl 2 true [] [], D.sl 1 true [] [], D.sl 2 true [] []]), IV.d (D.int IntKind.i64 w252)], [IV.d w253, IV.d w254]) ∧ condW (decide (ByteArray.size w1 + ByteArray.size { data := #[32, 48] } ≤ 9223372036854775807)) ((∃ w255 w256 w257 w258 w259 w260 w261 w262 w263 w264, C 11 [IV.d (D.sl 4 z1 x2 e3), IV.d (D.str (w1 ++ { data := #[32, 48] }))] = some (IV.tup [IV.d (D.agg [D.int IntKind.i64 w255, D.int IntKind.i64 w256, D.int IntKind.i64 w257, D.int IntKind.i64 w258, D.int IntKind.i64 w259, D.int IntKind.i64 w260, D.int IntKind.i64 w261, D.sl 2 true [] [], D.sl 1 true [] [], D.sl 2 true [] []]), IV.d (D.int IntKind.i64 w262)], [IV.d w263, IV.d w264]) ∧ condW (decide (0 ≤ IntKind.wrap IntKind.i64 (Int.tmod (IntKind.wrap IntKind.u64 i20) (IntKind.wrap IntKind.u64 (↑(ByteArray.size w1) : Int))))) (condW (decide (IntKind.wrap IntKind.i64 (Int.tmod (IntKind.wrap IntKind.u64 i20) (IntKind.wrap IntKind.u64 (↑(ByteArray.size w1) : Int))) < (↑(ByteArray.size w1) : Int))) (condW (byteAt w1 (Int.toNat (IntKind.wrap IntKind.i64 (Int.tmod (IntKind.wrap IntKind.u64 i20) (IntKind.wrap IntKind.u64 (↑(ByteArray.size w1) : Int))))) == 32) (∃ w265 w266, C 9 [IV.d (D.int IntKind.i64 w18)] = some (IV.d (D.int IntKind.i64 w265), [IV.d w266]) ∧ condW (w265 == 1700) (∃ w267 w268, C 9 [IV.d (D.int IntKind.i64 w242)] = some (IV.d (D.int IntKind.i64 w267), [IV.d w268]) ∧ condW (w267 == 1700) (∃ w269 w270, C 9 [IV.d (D.int IntKind.i64 w252)] = some (IV.d (D.int IntKind.i64 w269), [IV.d w270]) ∧ condW (w269 == 1700) (∃ w271 w272, C 9 [IV.d (D.int IntKind.i64 w262)] = some (IV.d (D.int IntKind.i64 w271), [IV.d w272]) ∧ condW (w271 == 1700) (Q (some (IV.d (D.bool true), [IV.d (D.sl 4 z1 x2 e3), IV.d (D.agg [D.int IntKind.i64 i4, D.int IntKind.i64 i5, D.int IntKind.i64 i6, D.int IntKind.i64 i7, D.int IntKind.i64 i8, D.int IntKind.i64 i9, D.int IntKind.i64 i10, D.sl 2 z11 x12 e13, D.sl 1 z14 x15 e16, D.sl 2 z17 x18 e19]), IV.d (D.int IntKind.i64 i20)]))) (Q (some (IV.d (D.bool false), [IV.d (D.sl 4 z1 x2 e3), IV.d (D.agg [D.int IntKind.i64 i4, D.int IntKind.i64 i5, D.int IntKind.i64 i6, D.int IntKind.i64 i7, D.int IntKind.i64 i8, D.int IntKind.i64 i9, D.int IntKind.i64 i10, D.sl 2 z11 x12 e13, D.sl 1 z14 x15 e16, D.sl 2 z17 x18 e19]), IV.d (D.int IntKind.i64 i20)])))) (Q (some (IV.d (D.bool false), [IV.d (D.sl 4 z1 x2 e3), IV.d (D.agg [D.int IntKind.i64 i4, D.int IntKind.i64 i5, D.int IntKind.i64 i6, D.int IntKind.i64 i7, D.int IntKind.i64 i8, D.int IntKind.i64 i9, D.int IntKind.i64 i10, D.sl 2 z11 x12 e13, D.sl 1 z14 x15 e16, D.sl 2 z17 x18 e19]), IV.d (D.int IntKind.i64 i20)])))) (Q (some (IV.d (D.bool false), [IV.d (D.sl 4 z1 x2 e3), IV.d (D.agg [D.int IntKind.i64 i4, D.int IntKind.i64 i5, D.int IntKind.i64 i6, D.int IntKind.i64 i7, D.int IntKind.i64 i8, D.int IntKind.i64 i9, D.int IntKind.i64 i10, D.sl 2 z11 x12 e13, D.sl 1 z14 x15 e16, D.sl 2 z17 x18 e19]), IV.d (D.int IntKind.i64 i20)])))) (Q (some (IV.d (D.bool false), [IV.d (D.sl 4 z1 x2 e3), IV.d (D.agg [D.int IntKind.i64 i4, D.int IntKind.i64 i5, D.int IntKind.i64 i6, D.int IntKind.i64 i7, D.int IntKind.i64 i8, D.int IntKind.i64 i9, D.int IntKind.i64 i10, D.sl 2 z11 x12 e13, D.sl 1 z14 x15 e16, D.sl 2 z17 x18 e19]), IV.d (D.int IntKind.i64 i20)])))) (condW (IntKind.wrap IntKind.i64 (Int.tmod (IntKind.wrap IntKind.u64 i20) (IntKind.wrap IntKind.u64 (↑(ByteArray.size w1) : Int))) == 0) (∃ w273 w274, C 9 [IV.d (D.int IntKind.i64 w18)] = some (IV.d (D.int IntKind.i64 w273), [IV.d w274]) ∧ condW (w273 == 1700) (∃ w275 w276, C 9 [IV.d (D.int IntKind.i64 w242)] = some (IV.d (D.int IntKind.i64 w275), [IV.d w276]) ∧ condW (w275 == 1700) (∃ w277 w278, C 9 [IV.d (D.int IntKind.i64 w252)] = some (IV.d (D.int IntKind.i64 w277), [IV.d w278]) ∧ condW (w277 == 1700) (∃ w279 w280, C 9 [IV.d (D.int IntKind.i64 w262)] = some (IV.d (D.int IntKind.i64 w279), [IV.d w280]) ∧ condW (w279 == 1700) (Q (some (IV.d (D.bool true), [IV.d (D.sl 4 z1 x2 e3), IV.d (D.agg [D.int IntKind.i64 i4, D.int IntKind.i64 i5, D.int IntKind.i64 i6, D.int IntKind.i64 i7, D.int IntKind.i64 i8, D.int IntKind.i64 i9, D.int IntKind.i64 i10, D.sl 2 z11 x12 e13, D.sl 1 z14 x15 e16, D.sl 2 z17 x18 e19]), IV.d (D.int IntKind.i64 i20)]))) (Q (some (IV.d (D.bool false), [IV.d (D.sl 4 z1 x2 e3), IV.d (D.agg [D.int IntKind.i64 i4, D.int IntKind.i64 i5, D.int IntKind.i64 i6, D.int IntKind.i64 i7, D.int IntKind.i64 i8, D.int IntKind.i64 i9, D.int IntKind.i64 i10, D.sl 2 z11 x12 e13, D.sl 1 z14 x15 e16, D.sl 2 z17 x18 e19]), IV.d (D.int IntKind.i64 i20)])))) (Q (some (IV.d (D.bool false), [IV.d (D.sl 4 z1 x2 e3), IV.d (D.agg [D.int IntKind.i64 i4, D.int IntKind.i64 i5, D.int IntKind.i64 i6, D.int IntKind.i64 i7, D.int IntKind.i64 i8, D.int IntKind.i64 i9, D.int IntKind.i64 i10, D.sl 2 z11 x12 e13, D.sl 1 z14 x15 e16, D.sl 2 z17 x18 e19]), IV.d (D.int IntKind.i64 i20)])))) (Q (some (IV.d (D.bool false), [IV.d (D.sl 4 z1 x2 e3), IV.d (D.agg [D.int IntKind.i64 i4, D.int IntKind.i64 i5, D.int IntKind.i64 i6, D.int IntKind.i64 i7, D.int IntKind.i64 i8, D.int IntKind.i64 i9, D.int IntKind.i64 i10, D.sl 2 z11 x12 e13, D.sl 1 z14 x15 e16, D.sl 2 z17 x18 e19]), IV.d (D.int IntKind.i64 i20)])))) (Q (some (IV.d (D.bool false), [IV.d (D.sl 4 z1 x2 e3), IV.d (D.agg [D.int IntKind.i64 i4, D.int IntKind.i64 i5, D.int IntKind.i64 i6, D.int IntKind.i64 i7, D.int IntKind.i64 i8, D.int IntKind.i64 i9, D.int IntKind.i64 i10, D.sl 2 z11 x12 e13, D.sl 1 z14 x15 e16, D.sl 2 z17 x18 e19]), IV.d (D.int IntKind.i64 i20)])))) (condW (decide (0 ≤ IntKind.wrap IntKind.i64 (IntKind.wrap IntKind.i64 (Int.tmod (IntKind.wrap IntKind.u64 i20) (IntKind.wrap IntKind.u64 (↑(ByteArray.size w1) : Int))) - 1))) (condW (decide (IntKind.wrap IntKind.i64 (IntKind.wrap IntKind.i64 (Int.tmod (IntKind.wrap IntKind.u64 i20) (IntKind.wrap IntKind.u64 (↑(ByteArray.size w1) : Int))) - 1) < (↑(ByteArray.size w1) : Int))) (condW (byteAt w1 (Int.toNat (IntKind.wrap IntKind.i64 (IntKind.wrap IntKind.i64 (Int.tmod (IntKind.wrap IntKind.u64 i20) (IntKind.wrap IntKind.u64 (↑(ByteArray.size w1) : Int))) - 1))) == 32) (∃ w281 w282, C 9 [IV.d (D.int IntKind.i64 w18)] = some (IV.d (D.int IntKind.i64 w281), [IV.d w282]) ∧ condW (w281 == 1700) (∃ w283 w284, C 9 [IV.d (D.int IntKind.i64 w242)] = some (IV.d (D.int IntKind.i64 w283), [IV.d w284]) ∧ condW (w283 == 1700) (∃ w285 w286, C 9 [IV.d (D.int IntKind.i64 w252)] = some (IV.d (D.int IntKind.i64 w285), [IV.d w286]) ∧ condW (w285 == 1700) (∃ w287 w288, C 9 [IV.d (D.int IntKind.i64 w262)] = some (IV.d (D.int IntKind.i64 w287), [IV.d w288]) ∧ condW (w287 == 1700) (Q (some (IV.d (D.bool true), [IV.d (D.sl 4 z1 x2 e3), IV.d (D.agg [D.int IntKind.i64 i4, D.int IntKind.i64 i5, D.int IntKind.i64 i6, D.int IntKind.i64 i7, D.int IntKind.i64 i8, D.int IntKind.i64 i9, D.int IntKind.i64 i10, D.sl 2 z11 x12 e13, D.sl 1 z14 x15 e16, D.sl 2 z17 x18 e19]), IV.d (D.int IntKind.i64 i20)]))) (Q (some (IV.d (D.bool false), [IV.d (D.sl 4 z1 x2 e3), IV.d (D.agg [D.int IntKind.i64 i4, D.int IntKind.i64 i5, D.int IntKind.i64 i6, D.int IntKind.i64 i7, D.int IntKind.i64 i8, D.int IntKind.i64 i9, D.int IntKind.i64 i10, D.sl 2 z11 x12 e13, D.sl 1 z14 x15 e16, D.sl 2 z17 x18 e19]), IV.d (D.int IntKind.i64 i20)])))) (Q (some (IV.d (D.bool false), [IV.d (D.sl 4 z1 x2 e3), IV.d (D.agg [D.int IntKind.i64 i4, D.int IntKind.i64 i5, D.int IntKind.i64 i6, D.int IntKind.i64 i7, D.int IntKind.i64 i8, D.int IntKind.i64 i9, D.int IntKind.i64 i10, D.sl 2 z11 x12 e13, D.sl 1 z14 x15 e16, D.sl 2 z17 x18 e19]), IV.d (D.int IntKind.i64 i20)])))) (Q (some (IV.d (D.bool false), [IV.d (D.sl 4 z1 x2 e3), IV.d (D.agg [D.int IntKind.i64 i4, D.int IntKind.i64 i5, D.int IntKind.i64 i6, D.int IntKind.i64 i7, D.int IntKind.i64 i8, D.int IntKind.i64 i9, D.int IntKind.i64 i10, D.sl 2 z11 x12 e13, D.sl 1 z14 x15 e16, D.sl 2 z17 x18 e19]), IV.d (D.int IntKind.i64 i20)])))) (Q (some (IV.d (D.bool false), [IV.d (D.sl 4 z1 x2 e3), IV.d (D.agg [D.int IntKind.i64 i4, D.int IntKind.i64 i5, D.int IntKind.i64 i6, D.int IntKind.i64 i7, D.int IntKind.i64 i8, D.int IntKind.i64 i9, D.int IntKind.i64 i10, D.sl 2 z11 x12 e13, D.sl 1 z14 x15 e16, D.sl 2 z17 x18 e19]), IV.d (D.int IntKind.i64 i20)])))) (∃ w289 w290, C 9 [IV.d (D.int IntKind.i64 w242)] = some (IV.d (D.int IntKind.i64 w289), [IV.d w290]) ∧ condW (w289 == 1700) (∃ w291 w292, C 9 [IV.d (D.int IntKind.i64 w252)] = some (IV.d (D.int IntKind.i64 w291), [IV.d w292]) ∧ condW (w291 == 1700) (∃ w293 w294, C 9 [IV.d (D.int IntKind.i64 w262)] = some (IV.d (D.int IntKind.i64 w293), [IV.d w294]) ∧ condW (w293 == 1700) (Q (some (IV.d (D.bool true), [IV.d (D.sl 4 z1 x2 e3), IV.d (D.agg [D.int IntKind.i64 i4, D.int IntKind.i64 i5, D.int IntKind.i64 i6, D.int IntKind.i64 i7, D.int IntKind.i64 i8, D.int IntKind.i64 i9, D.int IntKind.i64 i10, D.sl 2 z11 x12 e13, D.sl 1 z14 x15 e16, D.sl 2 z17 x18 e19]), IV.d (D.int IntKind.i64 i20)]))) (Q (some (IV.d (D.bool false), [IV.d (D.sl 4 z1 x2 e3), IV.d (D.agg [D.int IntKind.i64 i4, D.int IntKind.i64 i5, D.int IntKind.i64 i6, D.int IntKind.i64 i7, D.int IntKind.i64 i8, D.int IntKind.i64 i9, D.int IntKind.i64 i10, D.sl 2 z11 x12 e13, D.sl 1 z14 x15 e16, D.sl 2 z17 x18 e19]), IV.d (D.int IntKind.i64 i20)])))) (Q (some (IV.d (D.bool false), [IV.d (D.sl 4 z1 x2 e3), IV.d (D.agg [D.int IntKind.i64 i4, D.int IntKind.i64 i5, D.int IntKind.i64 i6, D.int IntKind.i64 i7, D.int IntKind.i64 i8, D.int IntKind.i64 i9, D.int IntKind.i64 i10, D.sl 2 z11 x12 e13, D.sl 1 z14 x15 e16, D.sl 2 z17 x18 e19]), IV.d (D.int IntKind.i64 i20)])))) (Q (some (IV.d (D.bool false), [IV.d (D.sl 4 z1 x2 e3), IV.d (D.agg [D.int IntKind.i64 i4, D.int IntKind.i64 i5, D.int IntKind.i64 i6, D.int IntKind.i64 i7, D.int IntKind.i64 i8, D.int IntKind.i64 i9, D.int IntKind.i64 i10, D.sl 2 z11 x12 e13, D.sl 1 z14 x15 e16, D.sl 2 z17 x18 e19]), IV.d (D.int IntKind.i64 i20)]))))) False) False))) False) False) ∨ ∃ w295 w296 w297 w298 w299 w300 w301 w302 w303 w304 w305 w306 w307 w308 w309 w310, C 11 [IV.d (D.sl 4 z1 x2 e3), IV.d (D.str (w1 ++ { data := #[32, 48] }))] = some (IV.tup [IV.agg [IV.d (D.int IntKind.i64 w295), IV.d (D.int IntKind.i64 w296), IV.d (D.int IntKind.i64 w297), IV.d (D.int IntKind.i64 w298), IV.d (D.int IntKind.i64 w299), IV.d (D.int IntKind.i64 w300), IV.d (D.int IntKind.i64 w301), IV.own w302 44 2 w303, IV.own w304 42 1 w305, IV.own w306 44 2 w307], IV.d (D.int IntKind.i64 w308)], [IV.d w309, IV.d w310]) ∧ condW (decide (0 ≤ IntKind.wrap IntKind.i64 (Int.tmod (IntKind.wrap IntKind.u64 i20) (IntKind.wrap IntKind.u64 (↑(ByteArray.size w1) : Int))))) (condW (decide (IntKind.wrap IntKind.i64 (Int.tmod (IntKind.wrap IntKind.u64 i20) (IntKind.wrap IntKind.u64 (↑(ByteArray.size w1) : Int))) < (↑(ByteArray.size w1) : Int))) (condW (byteAt w1 (Int.toNat (IntKind.wrap IntKind.i64 (Int.tmod (IntKind.wrap IntKind.u64 i20) (IntKind.wrap IntKind.u64 (↑(ByteArray.size w1) : Int))))) == 32) (∃ w311 w312, C 9 [IV.d (D.int IntKind.i64 w18)] = some (IV.d (D.int IntKind.i64 w311), [IV.d w312]) ∧ condW (w311 == 1700) (∃ w313 w314, C 9 [IV.d (D.int IntKind.i64 w242)] = some (IV.d (D.int IntKind.i64 w313), [IV.d w314]) ∧ condW (w313 == 1700) (∃ w315 w316, C 9 [IV.d (D.int IntKind.i64 w252)] = some (IV.d (D.int IntKind.i64 w315), [IV.d w316]) ∧ condW (w315 == 1700) (∃ w317 w318, C 9 [IV.d (D.int IntKind.i64 w308)] = some (IV.d (D.int IntKind.i64 w317), [IV.d w318]) ∧ condW (w317 == 1700) (Q (some (IV.d (D.bool true), [IV.d (D.sl 4 z1 x2 e3), IV.d (D.agg [D.int IntKind.i64 i4, D.int IntKind.i64 i5, D.int IntKind.i64 i6, D.int IntKind.i64 i7, D.int IntKind.i64 i8, D.int IntKind.i64 i9, D.int IntKind.i64 i10, D.sl 2 z11 x12 e13, D.sl 1 z14 x15 e16, D.sl 2 z17 x18 e19]), IV.d (D.int IntKind.i64 i20)]))) (Q (some (IV.d (D.bool false), [IV.d (D.sl 4 z1 x2 e3), IV.d (D.agg [D.int IntKind.i64 i4, D.int IntKind.i64 i5, D.int IntKind.i64 i6, D.int IntKind.i64 i7, D.int IntKind.i64 i8, D.int IntKind.i64 i9, D.int IntKind.i64 i10, D.sl 2 z11 x12 e13, D.sl 1 z14 x15 e16, D.sl 2 z17 x18 e19]), IV.d (D.int IntKind.i64 i20)])))) (Q (some (IV.d (D.bool false), [IV.d (D.sl 4 z1 x2 e3), IV.d (D.agg [D.int IntKind.i64 i4, D.int IntKind.i64 i5, D.int IntKind.i64 i6, D.int IntKind.i64 i7, D.int IntKind.i64 i8, D.int IntKind.i64 i9, D.int IntKind.i64 i10, D.sl 2 z11 x12 e13, D.sl 1 z14 x15 e16, D.sl 2 z17 x18 e19]), IV.d (D.int IntKind.i64 i20)])))) (Q (some (IV.d (D.bool false), [IV.d (D.sl 4 z1 x2 e3), IV.d (D.agg [D.int IntKind.i64 i4, D.int IntKind.i64 i5, D.int IntKind.i64 i6, D.int IntKind.i64 i7, D.int IntKind.i64 i8, D.int IntKind.i64 i9, D.int IntKind.i64 i10, D.sl 2 z11 x12 e13, D.sl 1 z14 x15 e16, D.sl 2 z17 x18 e19]), IV.d (D.int IntKind.i64 i20)])))) (Q (some (IV.d (D.bool false), [IV.d (D.sl 4 z1 x2 e3), IV.d (D.agg [D.int IntKind.i64 i4, D.int IntKind.i64 i5, D.int IntKind.i64 i6, D.int IntKind.i64 i7, D.int IntKind.i64 i8, D.int IntKind.i64 i9, D.int IntKind.i64 i10, D.sl 2 z11 x12 e13, D.sl 1 z14 x15 e16, D.sl 2 z17 x18 e19]), IV.d (D.int IntKind.i64 i20)])))) (condW (IntKind.wrap IntKind.i64 (Int.tmod (IntKind.wrap IntKind.u64 i20) (IntKind.wrap IntKind.u64 (↑(ByteArray.size w1) : Int))) == 0) (∃ w319 w320, C 9 [IV.d (D.int IntKind.i64 w18)] = some (IV.d (D.int IntKind.i64 w319), [IV.d w320]) ∧ condW (w319 == 1700) (∃ w321 w322, C 9 [IV.d (D.int IntKind.i64 w242)] = some (IV.d (D.int IntKind.i64 w321), [IV.d w322]) ∧ condW (w321 == 1700) (∃ w323 w324, C 9 [IV.d (D.int IntKind.i64 w252)] = some (IV.d (D.int IntKind.i64 w323), [IV.d w324]) ∧ condW (w323 == 1700) (∃ w325 w326, C 9 [IV.d (D.int IntKind.i64 w308)] = some (IV.d (D.int IntKind.i64 w325), [IV.d w326]) ∧ condW (w325 == 1700) (Q (some (IV.d (D.bool true), [IV.d (D.sl 4 z1 x2 e3), IV.d (D.agg [D.int IntKind.i64 i4, D.int IntKind.i64 i5, D.int IntKind.i64 i6, D.int IntKind.i64 i7, D.int IntKind.i64 i8, D.int IntKind.i64 i9, D.int IntKind.i64 i10, D.sl 2 z11 x12 e13, D.sl 1 z14 x15 e16, D.sl 2 z17 x18 e19]), IV.d (D.int IntKind.i64 i20)]))) (Q (some (IV.d (D.bool false), [IV.d (D.sl 4 z1 x2 e3), IV.d (D.agg [D.int IntKind.i64 i4, D.int IntKind.i64 i5, D.int IntKind.i64 i6, D.int IntKind.i64 i7, D.int IntKind.i64 i8, D.int IntKind.i64 i9, D.int IntKind.i64 i10, D.sl 2 z11 x12 e13, D.sl 1 z14 x15 e16, D.sl 2 z17 x18 e19]), IV.d (D.int IntKind.i64 i20)])))) (Q (some (IV.d (D.bool false), [IV.d (D.sl 4 z1 x2 e3), IV.d (D.agg [D.int IntKind.i64 i4, D.int IntKind.i64 i5, D.int IntKind.i64 i6, D.int IntKind.i64 i7, D.int IntKind.i64 i8, D.int IntKind.i64 i9, D.int IntKind.i64 i10, D.sl 2 z11 x12 e13, D.sl 1 z14 x15 e16, D.sl 2 z17 x18 e19]), IV.d (D.int IntKind.i64 i20)])))) (Q (some (IV.d (D.bool false), [IV.d (D.sl 4 z1 x2 e3), IV.d (D.agg [D.int IntKind.i64 i4, D.int IntKind.i64 i5, D.int IntKind.i64 i6, D.int IntKind.i64 i7, D.int IntKind.i64 i8, D.int IntKind.i64 i9, D.int IntKind.i64 i10, D.sl 2 z11 x12 e13, D.sl 1 z14 x15 e16, D.sl 2 z17 x18 e19]), IV.d (D.int IntKind.i64 i20)])))) (Q (some (IV.d (D.bool false), [IV.d (D.sl 4 z1 x2 e3), IV.d (D.agg [D.int IntKind.i64 i4, D.int IntKind.i64 i5, D.int IntKind.i64 i6, D.int IntKind.i64 i7, D.int IntKind.i64 i8, D.int IntKind.i64 i9, D.int IntKind.i64 i10, D.sl 2 z11 x12 e13, D.sl 1 z14 x15 e16, D.sl 2 z17 x18 e19]), IV.d (D.int IntKind.i64 i20)])))) (condW (decide (0 ≤ IntKind.wrap IntKind.i64 (IntKind.wrap IntKind.i64 (Int.tmod (IntKind.wrap IntKind.u64 i20) (IntKind.wrap IntKind.u64 (↑(ByteArray.size w1) : Int))) - 1))) (condW (decide (IntKind.wrap IntKind.i64 (IntKind.wrap IntKind.i64 (Int.tmod (IntKind.wrap IntKind.u64 i20) (IntKind.wrap IntKind.u64 (↑(ByteArray.size w1) : Int))) - 1) < (↑(ByteArray.size w1) : Int))) (condW (byteAt w1 (Int.toNat (IntKind.wrap IntKind.i64 (IntKind.wrap IntKind.i64 (Int.tmod (IntKind.wrap IntKind.u64 i20) (IntKind.wrap IntKind.u64 (↑(ByteArray.size w1) : Int))) - 1))) == 32) (∃ w327 w328, C 9 [IV.d (D.int IntKind.i64 w18)] = some (IV.d (D.int IntKind.i64 w327), [IV.d w328]) ∧ condW (w327 == 1700) (∃ w329 w330, C 9 [IV.d (D.int IntKind.i64 w242)] = some (IV.d (D.int IntKind.i64 w329), [IV.d w330]) ∧ condW (w329 == 1700) (∃ w331 w332, C 9 [IV.d (D.int IntKind.i64 w252)] = some (IV.d (D.int IntKind.i64 w331), [IV.d w332]) ∧ condW (w331 == 1700) (∃ w333 w334, C 9 [IV.d (D.int IntKind.i64 w308)] = some (IV.d (D.int IntKind.i64 w333), [IV.d w334]) ∧ condW (w333 == 1700) (Q (some (IV.d (D.bool true), [IV.d (D.sl 4 z1 x2 e3), IV.d (D.agg [D.int IntKind.i64 i4, D.int IntKind.i64 i5, D.int IntKind.i64 i6, D.int IntKind.i64 i7, D.int IntKind.i64 i8, D.int IntKind.i64 i9, D.int IntKind.i64 i10, D.sl 2 z11 x12 e13, D.sl 1 z14 x15 e16, D.sl 2 z17 x18 e19]), IV.d (D.int IntKind.i64 i20)]))) (Q (some (IV.d (D.bool false), [IV.d (D.sl 4 z1 x2 e3), IV.d (D.agg [D.int IntKind.i64 i4, D.int IntKind.i64 i5, D.int IntKind.i64 i6, D.int IntKind.i64 i7, D.int IntKind.i64 i8, D.int IntKind.i64 i9, D.int IntKind.i64 i10, D.sl 2 z11 x12 e13, D.sl 1 z14 x15 e16, D.sl 2 z17 x18 e19]), IV.d (D.int IntKind.i64 i20)])))) (Q (some (IV.d (D.bool false), [IV.d (D.sl 4 z1 x2 e3), IV.d (D.agg [D.int IntKind.i64 i4, D.int IntKind.i64 i5, D.int IntKind.i64 i6, D.int IntKind.i64 i7, D.int IntKind.i64 i8, D.int IntKind.i64 i9, D.int IntKind.i64 i10, D.sl 2 z11 x12 e13, D.sl 1 z14 x15 e16, D.sl 2 z17 x18 e19]), IV.d (D.int IntKind.i64 i20)])))) (Q (some (IV.d (D.bool false), [IV.d (D.sl 4 z1 x2 e3), IV.d (D.agg [D.int IntKind.i64 i4, D.int IntKind.i64 i5, D.int IntKind.i64 i6, D.int IntKind.i64 i7, D.int IntKind.i64 i8, D.int IntKind.i64 i9, D.int IntKind.i64 i10, D.sl 2 z11 x12 e13, D.sl 1 z14 x15 e16, D.sl 2 z17 x18 e19]), IV.d (D.int IntKind.i64 i20)])))) (Q (some (IV.d (D.bool false), [IV.d (D.sl 4 z1 x2 e3), IV.d (D.agg [D.int IntKind.i64 i4, D.int IntKind.i64 i5, D.int IntKind.i64 i6, D.int IntKind.i64 i7, D.int IntKind.i64 i8, D.int IntKind.i64 i9, D.int IntKind.i64 i10, D.sl 2 z11 x12 e13, D.sl 1 z14 x15 e16, D.sl 2 z17 x18 e19]), IV.d (D.int IntKind.i64 i20)])))) (∃ w335 w336, C 9 [IV.d (D.int IntKind.i64 w242)] = some (IV.d (D.int IntKind.i64 w335), [IV.d w336]) ∧ condW (w335 == 1700) (∃ w337 w338, C 9 [IV.d (D.int IntKind.i64 w252)] = some (IV.d (D.int IntKind.i64 w337), [IV.d w338]) ∧ condW (w337 == 1700) (∃ w339 w340, C 9 [IV.d (D.int IntKind.i64 w308)] = some (IV.d (D.int IntKind.i64 w339), [IV.d w340]) ∧ condW (w339 == 1700) (Q (some (IV.d (D.bool true), [IV.d (D.sl 4 z1 x2 e3), IV.d (D.agg [D.int IntKind.i64 i4, D.int IntKind.i64 i5, D.int IntKind.i64 i6, D.int IntKind.i64 i7, D.int IntKind.i64 i8, D.int IntKind.i64 i9, D.int IntKind.i64 i10, D.sl 2 z11 x12 e13, D.sl 1 z14 x15 e16, D.sl 2 z17 x18 e19]), IV.d (D.int IntKind.i64 i20)]))) (Q (some (IV.d (D.bool false), [IV.d (D.sl 4 z1 x2 e3), IV.d (D.agg [D.int IntKind.i64 i4, D.int IntKind.i64 i5, D.int IntKind.i64 i6, D.int IntKind.i64 i7, D.int IntKind.i64 i8, D.int IntKind.i64 i9, D.int IntKind.i64 i10, D.sl 2 z11 x12 e13, D.sl 1 z14 x15 e16, D.sl 2 z17 x18 e19]), IV.d (D.int IntKind.i64 i20)])))) (Q (some (IV.d (D.bool false), [IV.d (D.sl 4 z1 x2 e3), IV.d (D.agg [D.int IntKind.i64 i4, D.int IntKind.i64 i5, D.int IntKind.i64 i6, D.int IntKind.i64 i7, D.int IntKind.i64 i8, D.int IntKind.i64 i9, D.int IntKind.i64 i10, D.sl 2 z11 x12 e13, D.sl 1 z14 x15 e16, D.sl 2 z17 x18 e19]), IV.d (D.int IntKind.i64 i20)])))) (Q (some (IV.d (D.bool false), [IV.d (D.sl 4 z1 x2 e3), IV.d (D.agg [D.int IntKind.i64 i4, D.int IntKind.i64 i5, D.int IntKind.i64 i6, D.int IntKind.i64 i7, D.int IntKind.i64 i8, D.int IntKind.i64 i9, D.int IntKind.i64 i10, D.sl 2 z11 x12 e13, D.sl 1 z14 x15 e16, D.sl 2 z17 x18 e19]), IV.d (D.int IntKind.i64 i20)]))))) False) False))) False) False) False) ∨ ∃ w341 w342 w343 w344 w345 w346 w347 w348 w349 w350 w351 w352 w353 w354 w355 w356, C 11 [IV.d (D.sl 4 z1 x2 e3), IV.d (D.str ({ data := #[48] } ++ w1))] = some (IV.tup [IV.agg [IV.d (D.int IntKind.i64 w341), IV.d (D.int IntKind.i64 w342), IV.d (D.int IntKind.i64 w343), IV.d (D.int IntKind.i64 w344), IV.d (D.int IntKind.i64 w345), IV.d (D.int IntKind.i64 w346), IV.d (D.int IntKind.i64 w347), IV.own w348 44 2 w349, IV.own w350 42 1 w351, IV.own w352 44 2 w353], IV.d (D.int IntKind.i64 w354)], [IV.d w355, IV.d w356]) ∧ condW (decide (ByteArray.size w1 + ByteArray.size { data := #[32, 48] } ≤ 9223372036854775807)) ((∃ w357 w358 w359 w360 w361 w362 w363 w364 w365 w366, C 11 [IV.d (D.sl 4 z1 x2 e3), IV.d (D.str (w1 ++ { data := #[32, 48] }))] = some (IV.tup [IV.d (D.agg [D.int IntKind.i64 w357, D.int IntKind.i64 w358, D.int IntKind.i64 w359, D.int IntKind.i64 w360, D.int IntKind.i64 w361, D.int IntKind.i64 w362, D.int IntKind.i64 w363, D.sl 2 true [] [], D.sl 1 true [] [], D.sl 2 true [] []]), IV.d (D.int IntKind.i64 w364)], [IV.d w365, IV.d w366]) ∧ condW (decide (0 ≤ IntKind.wrap IntKind.i64 (Int.tmod (IntKind.wrap IntKind.u64 i20) (IntKind.wrap IntKind.u64 (↑(ByteArray.size w1) : Int))))) (condW (decide (IntKind.wrap IntKind.i64 (Int.tmod (IntKind.wrap IntKind.u64 i20) (IntKind.wrap IntKind.u64 (↑(ByteArray.size w1) : Int))) < (↑(ByteArray.size w1) : Int))) (condW (byteAt w1 (Int.toNat (IntKind.wrap IntKind.i64 (Int.tmod (IntKind.wrap IntKind.u64 i20) (IntKind.wrap IntKind.u64 (↑(ByteArray.size w1) : Int))))) == 32) (∃ w367 w368, C 9 [IV.d (D.int IntKind.i64 w18)] = some (IV.d (D.int IntKind.i64 w367), [IV.d w368]) ∧ condW (w367 == 1700) (∃ w369 w370, C 9 [IV.d (D.int IntKind.i64 w242)] = some (IV.d (D.int IntKind.i64 w369), [IV.d w370]) ∧ condW (w369 == 1700) (∃ w371 w372, C 9 [IV.d (D.int IntKind.i64 w354)] = some (IV.d (D.int IntKind.i64 w371), [IV.d w372]) ∧ condW (w371 == 1700) (∃ w373 w374, C 9 [IV.d (D.int IntKind.i64 w364)] = some (IV.d (D.int IntKind.i64 w373), [IV.d w374]) ∧ condW (w373 == 1700) (Q (some (IV.d (D.bool true), [IV.d (D.sl 4 z1 x2 e3), IV.d (D.agg [D.int IntKind.i64 i4, D.int IntKind.i64 i5, D.int IntKind.i64 i6, D.int IntKind.i64 i7, D.int IntKind.i64 i8, D.int IntKind.i64 i9, D.int IntKind.i64 i10, D.sl 2 z11 x12 e13, D.sl 1 z14 x15 e16, D.sl 2 z17 x18 e19]), IV.d (D.int IntKind.i64 i20)]))) (Q (some (IV.d (D.bool false), [IV.d (D.sl 4 z1 x2 e3), IV.d (D.agg [D.int IntKind.i64 i4, D.int IntKind.i64 i5, D.int IntKind.i64 i6, D.int IntKind.i64 i7, D.int IntKind.i64 i8, D.int IntKind.i64 i9, D.int IntKind.i64 i10, D.sl 2 z11 x12 e13, D.sl 1 z14 x15 e16, D.sl 2 z17 x18 e19]), IV.d (D.int IntKind.i64 i20)])))) (Q (some (IV.d (D.bool false), [IV.d (D.sl 4 z1 x2 e3), IV.d (D.agg [D.int IntKind.i64 i4, D.int IntKind.i64 i5, D.int IntKind.i64 i6, D.int IntKind.i64 i7, D.int IntKind.i64 i8, D.int IntKind.i64 i9, D.int IntKind.i64 i10, D.sl 2 z11 x12 e13, D.sl 1 z14 x15 e16, D.sl 2 z17 x18 e19]), IV.d (D.int IntKind.i64 i20)])))) (Q (some (IV.d (D.bool false), [IV.d (D.sl 4 z1 x2 e3), IV.d (D.agg [D.int IntKind.i64 i4, D.int IntKind.i64 i5, D.int IntKind.i64 i6, D.int IntKind.i64 i7, D.int IntKind.i64 i8, D.int IntKind.i64 i9, D.int IntKind.i64 i10, D.sl 2 z11 x12 e13, D.sl 1 z14 x15 e16, D.sl 2 z17 x18 e19]), IV.d (D.int IntKind.i64 i20)])))) (Q (some (IV.d (D.bool false), [IV.d (D.sl 4 z1 x2 e3), IV.d (D.agg [D.int IntKind.i64 i4, D.int IntKind.i64 i5, D.int IntKind.i64 i6, D.int IntKind.i64 i7, D.int IntKind.i64 i8, D.int IntKind.i64 i9, D.int IntKind.i64 i10, D.sl 2 z11 x12 e13, D.sl 1 z14 x15 e16, D.sl 2 z17 x18 e19]), IV.d (D.int IntKind.i64 i20)])))) (condW (IntKind.wrap IntKind.i64 (Int.tmod (IntKind.wrap IntKind.u64 i20) (IntKind.wrap IntKind.u64 (↑(ByteArray.size w1) : Int))) == 0) (∃ w375 w376, C 9 [IV.d (D.int IntKind.i64 w18)] = some (IV.d (D.int IntKind.i64 w375), [IV.d w376]) ∧ condW (w375 == 1700) (∃ w377 w378, C 9 [IV.d (D.int IntKind.i64 w242)] = some (IV.d (D.int IntKind.i64 w377), [IV.d w378]) ∧ condW (w377 == 1700) (∃ w379 w380, C 9 [IV.d (D.int IntKind.i64 w354)] = some (IV.d (D.int IntKind.i64 w379), [IV.d w380]) ∧ condW (w379 == 1700) (∃ w381 w382, C 9 [IV.d (D.int IntKind.i64 w364)] = some (IV.d (D.int IntKind.i64 w381), [IV.d w382]) ∧ condW (w381 == 1700) (Q (some (IV.d (D.bool true), [IV.d (D.sl 4 z1 x2 e3), IV.d (D.agg [D.int IntKind.i64 i4, D.int IntKind.i64 i5, D.int IntKind.i64 i6, D.int IntKind.i64 i7, D.int IntKind.i64 i8, D.int IntKind.i64 i9, D.int IntKind.i64 i10, D.sl 2 z11 x12 e13, D.sl 1 z14 x15 e16, D.sl 2 z17 x18 e19]), IV.d (D.int IntKind.i64 i20)]))) (Q (some (IV.d (D.bool false), [IV.d (D.sl 4 z1 x2 e3), IV.d (D.agg [D.int IntKind.i64 i4, D.int IntKind.i64 i5, D.int IntKind.i64 i6, D.int IntKind.i64 i7, D.int IntKind.i64 i8, D.int IntKind.i64 i9, D.int IntKind.i64 i10, D.sl 2 z11 x12 e13, D.sl 1 z14 x15 e16, D.sl 2 z17 x18 e19]), IV.d (D.int IntKind.i64 i20)])))) (Q (some (IV.d (D.bool false), [IV.d (D.sl 4 z1 x2 e3), IV.d (D.agg [D.int IntKind.i64 i4, D.int IntKind.i64 i5, D.int IntKind.i64 i6, D.int IntKind.i64 i7, D.int IntKind.i64 i8, D.int IntKind.i64 i9, D.int IntKind.i64 i10, D.sl 2 z11 x12 e13, D.sl 1 z14 x15 e16, D.sl 2 z17 x18 e19]), IV.d (D.int IntKind.i64 i20)])))) (Q (some (IV.d (D.bool false), [IV.d (D.sl 4 z1 x2 e3), IV.d (D.agg [D.int IntKind.i64 i4, D.int IntKind.i64 i5, D.int IntKind.i64 i6, D.int IntKind.i64 i7, D.int IntKind.i64 i8, D.int IntKind.i64 i9, D.int IntKind.i64 i10, D.sl 2 z11 x12 e13, D.sl 1 z14 x15 e16, D.sl 2 z17 x18 e19]), IV.d (D.int IntKind.i64 i20)])))) (Q (some (IV.d (D.bool false), [IV.d (D.sl 4 z1 x2 e3), IV.d (D.agg [D.int IntKind.i64 i4, D.int IntKind.i64 i5, D.int IntKind.i64 i6, D.int IntKind.i64 i7, D.int IntKind.i64 i8, D.int IntKind.i64 i9, D.int IntKind.i64 i10, D.sl 2 z11 x12 e13, D.sl 1 z14 x15 e16, D.sl 2 z17 x18 e19]), IV.d (D.int IntKind.i64 i20)])))) (condW (decide (0 ≤ IntKind.wrap IntKind.i64 (IntKind.wrap IntKind.i64 (Int.tmod (IntKind.wrap IntKind.u64 i20) (IntKind.wrap IntKind.u64 (↑(ByteArray.size w1) : Int))) - 1))) (condW (decide (IntKind.wrap IntKind.i64 (IntKind.wrap IntKind.i64 (Int.tmod (IntKind.wrap IntKind.u64 i20) (IntKind.wrap IntKind.u64 (↑(ByteArray.size w1) : Int))) - 1) < (↑(ByteArray.size w1) : Int))) (condW (byteAt w1 (Int.toNat (IntKind.wrap IntKind.i64 (IntKind.wrap IntKind.i64 (Int.tmod (IntKind.wrap IntKind.u64 i20) (IntKind.wrap IntKind.u64 (↑(ByteArray.size w1) : Int))) - 1))) == 32) (∃ w383 w384, C 9 [IV.d (D.int IntKind.i64 w18)] = some (IV.d (D.int IntKind.i64 w383), [IV.d w384]) ∧ condW (w383 == 1700) (∃ w385 w386, C 9 [IV.d (D.int IntKind.i64 w242)] = some (IV.d (D.int IntKind.i64 w385), [IV.d w386]) ∧ condW (w385 == 1700) (∃ w387 w388, C 9 [IV.d (D.int IntKind.i64 w354)] = some (IV.d (D.int IntKind.i64 w387), [IV.d w388]) ∧ condW (w387 == 1700) (∃ w389 w390, C 9 [IV.d (D.int IntKind.i64 w364)] = some (IV.d (D.int IntKind.i64 w389), [IV.d w390]) ∧ condW (w389 == 1700) (Q (some (IV.d (D.bool true), [IV.d (D.sl 4 z1 x2 e3), IV.d (D.agg [D.int IntKind.i64 i4, D.int IntKind.i64 i5, D.int IntKind.i64 i6, D.int IntKind.i64 i7, D.int IntKind.i64 i8, D.int IntKind.i64 i9, D.int IntKind.i64 i10, D.sl 2 z11 x12 e13, D.sl 1 z14 x15 e16, D.sl 2 z17 x18 e19]), IV.d (D.int IntKind.i64 i20)]))) (Q (some (IV.d (D.bool false), [IV.d (D.sl 4 z1 x2 e3), IV.d (D.agg [D.int IntKind.i64 i4, D.int IntKind.i64 i5, D.int IntKind.i64 i6, D.int IntKind.i64 i7, D.int IntKind.i64 i8, D.int IntKind.i64 i9, D.int IntKind.i64 i10, D.sl 2 z11 x12 e13, D.sl 1 z14 x15 e16, D.sl 2 z17 x18 e19]), IV.d (D.int IntKind.i64 i20)])))) (Q (some (IV.d (D.bool false), [IV.d (D.sl 4 z1 x2 e3), IV.d (D.agg [D.int IntKind.i64 i4, D.int IntKind.i64 i5, D.int IntKind.i64 i6, D.int IntKind.i64 i7, D.int IntKind.i64 i8, D.int IntKind.i64 i9, D.int IntKind.i64 i10, D.sl 2 z11 x12 e13, D.sl 1 z14 x15 e16, D.sl 2 z17 x18 e19]), IV.d (D.int IntKind.i64 i20)])))) (Q (some (IV.d (D.bool false), [IV.d (D.sl 4 z1 x2 e3), IV.d (D.agg [D.int IntKind.i64 i4, D.int IntKind.i64 i5, D.int IntKind.i64 i6, D.int IntKind.i64 i7, D.int IntKind.i64 i8, D.int IntKind.i64 i9, D.int IntKind.i64 i10, D.sl 2 z11 x12 e13, D.sl 1 z14 x15 e16, D.sl 2 z17 x18 e19]), IV.d (D.int IntKind.i64 i20)])))) (Q (some (IV.d (D.bool false), [IV.d (D.sl 4 z1 x2 e3), IV.d (D.agg [D.int IntKind.i64 i4, D.int IntKind.i64 i5, D.int IntKind.i64 i6, D.int IntKind.i64 i7, D.int IntKind.i64 i8, D.int IntKind.i64 i9, D.int IntKind.i64 i10, D.sl 2 z11 x12 e13, D.sl 1 z14 x15 e16, D.sl 2 z17 x18 e19]), IV.d (D.int IntKind.i64 i20)])))) (∃ w391 w392, C 9 [IV.d (D.int IntKind.i64 w242)] = some (IV.d (D.int IntKind.i64 w391), [IV.d w392]) ∧ condW (w391 == 1700) (∃ w393 w394, C 9 [IV.d (D.int IntKind.i64 w354)] = some (IV.d (D.int IntKind.i64 w393), [IV.d w394]) ∧ condW (w393 == 1700) (∃ w395 w396, C 9 [IV.d (D.int IntKind.i64 w364)] = some (IV.d (D.int IntKind.i64 w395), [IV.d w396]) ∧ condW (w395 == 1700) (Q (some (IV.d (D.bool true), [IV.d (D.sl 4 z1 x2 e3), IV.d (D.agg [D.int IntKind.i64 i4, D.int IntKind.i64 i5, D.int IntKind.i64 i6, D.int IntKind.i64 i7, D.int IntKind.i64 i8, D.int IntKind.i64 i9, D.int IntKind.i64 i10, D.sl 2 z11 x12 e13, D.sl 1 z14 x15 e16, D.sl 2 z17 x18 e19]), IV.d (D.int IntKind.i64 i20)]))) (Q (some (IV.d (D.bool false), [IV.d (D.sl 4 z1 x2 e3), IV.d (D.agg [D.int IntKind.i64 i4, D.int IntKind.i64 i5, D.int IntKind.i64 i6, D.int IntKind.i64 i7, D.int IntKind.i64 i8, D.int IntKind.i64 i9, D.int IntKind.i64 i10, D.sl 2 z11 x12 e13, D.sl 1 z14 x15 e16, D.sl 2 z17 x18 e19]), IV.d (D.int IntKind.i64 i20)])))) (Q (some (IV.d (D.bool false), [IV.d (D.sl 4 z1 x2 e3), IV.d (D.agg [D.int IntKind.i64 i4, D.int IntKind.i64 i5, D.int IntKind.i64 i6, D.int IntKind.i64 i7, D.int IntKind.i64 i8, D.int IntKind.i64 i9, D.int IntKind.i64 i10, D.sl 2 z11 x12 e13, D.sl 1 z14 x15 e16, D.sl 2 z17 x18 e19]), IV.d (D.int IntKind.i64 i20)])))) (Q (some (IV.d (D.bool false), [IV.d (D.sl 4 z1 x2 e3), IV.d (D.agg [D.int IntKind.i64 i4, D.int IntKind.i64 i5, D.int IntKind.i64 i6, D.int IntKind.i64 i7, D.int IntKind.i64 i8, D.int IntKind.i64 i9, D.int IntKind.i64 i10, D.sl 2 z11 x12 e13, D.sl 1 z14 x15 e16, D.sl 2 z17 x18 e19]), IV.d (D.int IntKind.i64 i20)]))))) False) False))) False) False) ∨ ∃ w397 w398 w399 w400 w401 w402 w403 w404 w405 w406 w407 w408 w409 w410 w411 w412, C 11 [IV.d (D.sl 4 z1 x2 e3), IV.d (D.str (w1 ++ { data := #[32, 48] }))] = some (IV.tup [IV.agg [IV.d (D.int IntKind.i64 w397), IV.d (D.int IntKind.i64 w398), IV.d (D.int IntKind.i64 w399), IV.d (D.int IntKind.i64 w400), IV.d (D.int IntKind.i64 w401), IV.d (D.int IntKind.i64 w402), IV.d (D.int IntKind.i64 w403), IV.own w404 44 2 w405, IV.own w406 42 1 w407, IV.own w408 44 2 w409], IV.d (D.int IntKind.i64 w410)], [IV.d w411, IV.d w412]) ∧ condW (decide (0 ≤ IntKind.wrap IntKind.i64 (Int.tmod (IntKind.wrap IntKind.u64 i20) (IntKind.wrap IntKind.u64 (↑(ByteArray.size w1) : Int))))) (condW (decide (IntKind.wrap IntKind.i64 (Int.tmod (IntKind.wrap IntKind.u64 i20) (IntKind.wrap IntKind.u64 (↑(ByteArray.size w1) : Int))) < (↑(ByteArray.size w1) : Int))) (condW (byteAt w1 (Int.toNat (IntKind.wrap IntKind.i64 (Int.tmod (IntKind.wrap IntKind.u64 i20) (IntKind.wrap IntKind.u64 (↑(ByteArray.size w1) : Int))))) == 32) (∃ w413 w414, C 9 [IV.d (D.int IntKind.i64 w18)] = some (IV.d (D.int IntKind.i64 w413), [IV.d w414]) ∧ condW (w413 == 1700) (∃ w415 w416, C 9 [IV.d (D.int IntKind.i64 w242)] = some (IV.d (D.int IntKind.i64 w415), [IV.d w416]) ∧ condW (w415 == 1700) (∃ w417 w418, C 9 [IV.d (D.int IntKind.i64 w354)] = some (IV.d (D.int IntKind.i64 w417), [IV.d w418]) ∧ condW (w417 == 1700) (∃ w419 w420, C 9 [IV.d (D.int IntKind.i64 w410)] = some (IV.d (D.int IntKind.i64 w419), [IV.d w420]) ∧ condW (w419 == 1700) (Q (some (IV.d (D.bool true), [IV.d (D.sl 4 z1 x2 e3), IV.d (D.agg [D.int IntKind.i64 i4, D.int IntKind.i64 i5, D.int IntKind.i64 i6, D.int IntKind.i64 i7, D.int IntKind.i64 i8, D.int IntKind.i64 i9, D.int IntKind.i64 i10, D.sl 2 z11 x12 e13, D.sl 1 z14 x15 e16, D.sl 2 z17 x18 e19]), IV.d (D.int IntKind.i64 i20)]))) (Q (some (IV.d (D.bool false), [IV.d (D.sl 4 z1 x2 e3), IV.d (D.agg [D.int IntKind.i64 i4, D.int IntKind.i64 i5, D.int IntKind.i64 i6, D.int IntKind.i64 i7, D.int IntKind.i64 i8, D.int IntKind.i64 i9, D.int IntKind.i64 i10, D.sl 2 z11 x12 e13, D.sl 1 z14 x15 e16, D.sl 2 z17 x18 e19]), IV.d (D.int IntKind.i64 i20)])))) (Q (some (IV.d (D.bool false), [IV.d (D.sl 4 z1 x2 e3), IV.d (D.agg [D.int IntKind.i64 i4, D.int IntKind.i64 i5, D.int IntKind.i64 i6, D.int IntKind.i64 i7, D.int IntKind.i64 i8, D.int IntKind.i64 i9, D.int IntKind.i64 i10, D.sl 2 z11 x12 e13, D.sl 1 z14 x15 e16, D.sl 2 z17 x18 e19]), IV.d (D.int IntKind.i64 i20)])))) (Q (some (IV.d (D.bool false), [IV.d (D.sl 4 z1 x2 e3), IV.d (D.agg [D.int IntKind.i64 i4, D.int IntKind.i64 i5, D.int IntKind.i64 i6, D.int IntKind.i64 i7, D.int IntKind.i64 i8, D.int IntKind.i64 i9, D.int IntKind.i64 i10, D.sl 2 z11 x12 e13, D.sl 1 z14 x15 e16, D.sl 2 z17 x18 e19]), IV.d (D.int IntKind.i64 i20)])))) (Q (some (IV.d (D.bool false), [IV.d (D.sl 4 z1 x2 e3), IV.d (D.agg [D.int IntKind.i64 i4, D.int IntKind.i64 i5, D.int IntKind.i64 i6, D.int IntKind.i64 i7, D.int IntKind.i64 i8, D.int IntKind.i64 i9, D.int IntKind.i64 i10, D.sl 2 z11 x12 e13, D.sl 1 z14 x15 e16, D.sl 2 z17 x18 e19]), IV.d (D.int IntKind.i64 i20)])))) (condW (IntKind.wrap IntKind.i64 (Int.tmod (IntKind.wrap IntKind.u64 i20) (IntKind.wrap IntKind.u64 (↑(ByteArray.size w1) : Int))) == 0) (∃ w421 w422, C 9 [IV.d (D.int IntKind.i64 w18)] = some (IV.d (D.int IntKind.i64 w421), [IV.d w422]) ∧ condW (w421 == 1700) (∃ w423 w424, C 9 [IV.d (D.int IntKind.i64 w242)] = some (IV.d (D.int IntKind.i64 w423), [IV.d w424]) ∧ condW (w423 == 1700) (∃ w425 w426, C 9 [IV.d (D.int IntKind.i64 w354)] = some (IV.d (D.int IntKind.i64 w425), [IV.d w426]) ∧ condW (w425 == 1700) (∃ w427 w428, C 9 [IV.d (D.int IntKind.i64 w410)] = some (IV.d (D.int IntKind.i64 w427), [IV.d w428]) ∧ condW (w427 == 1700) (Q (some (IV.d (D.bool true), [IV.d (D.sl 4 z1 x2 e3), IV.d (D.agg [D.int IntKind.i64 i4, D.int IntKind.i64 i5, D.int IntKind.i64 i6, D.int IntKind.i64 i7, D.int IntKind.i64 i8, D.int IntKind.i64 i9, D.int IntKind.i64 i10, D.sl 2 z11 x12 e13, D.sl 1 z14 x15 e16, D.sl 2 z17 x18 e19]), IV.d (D.int IntKind.i64 i20)]))) (Q (some (IV.d (D.bool false), [IV.d (D.sl 4 z1 x2 e3), IV.d (D.agg [D.int IntKind.i64 i4, D.int IntKind.i64 i5, D.int IntKind.i64 i6, D.int IntKind.i64 i7, D.int IntKind.i64 i8, D.int IntKind.i64 i9, D.int IntKind.i64 i10, D.sl 2 z11 x12 e13, D.sl 1 z14 x15 e16, D.sl 2 z17 x18 e19]), IV.d (D.int IntKind.i64 i20)])))) (Q (some (IV.d (D.bool false), [IV.d (D.sl 4 z1 x2 e3), IV.d (D.agg [D.int IntKind.i64 i4, D.int IntKind.i64 i5, D.int IntKind.i64 i6, D.int IntKind.i64 i7, D.int IntKind.i64 i8, D.int IntKind.i64 i9, D.int IntKind.i64 i10, D.sl 2 z11 x12 e13, D.sl 1 z14 x15 e16, D.sl 2 z17 x18 e19]), IV.d (D.int IntKind.i64 i20)])))) (Q (some (IV.d (D.bool false), [IV.d (D.sl 4 z1 x2 e3), IV.d (D.agg [D.int IntKind.i64 i4, D.int IntKind.i64 i5, D.int IntKind.i64 i6, D.int IntKind.i64 i7, D.int IntKind.i64 i8, D.int IntKind.i64 i9, D.int IntKind.i64 i10, D.sl 2 z11 x12 e13, D.sl 1 z14 x15 e16, D.sl 2 z17 x18 e19]), IV.d (D.int IntKind.i64 i20)])))) (Q (some (IV.d (D.bool false), [IV.d (D.sl 4 z1 x2 e3), IV.d (D.agg [D.int IntKind.i64 i4, D.int IntKind.i64 i5, D.int IntKind.i64 i6, D.int IntKind.i64 i7, D.int IntKind.i64 i8, D.int IntKind.i64 i9, D.int IntKind.i64 i10, D.sl 2 z11 x12 e13, D.sl 1 z14 x15 e16, D.sl 2 z17 x18 e19]), IV.d (D.int IntKind.i64 i20)])))) (condW (decide (0 ≤ IntKind.wrap IntKind.i64 (IntKind.wrap IntKind.i64 (Int.tmod (IntKind.wrap IntKind.u64 i20) (IntKind.wrap IntKind.u64 (↑(ByteArray.size w1) : Int))) - 1))) (condW (decide (IntKind.wrap IntKind.i64 (IntKind.wrap IntKind.i64 (Int.tmod (IntKind.wrap IntKind.u64 i20) (IntKind.wrap IntKind.u64 (↑(ByteArray.size w1) : Int))) - 1) < (↑(ByteArray.size w1) : Int))) (condW (byteAt w1 (Int.toNat (IntKind.wrap IntKind.i64 (IntKind.wrap IntKind.i64 (Int.tmod (IntKind.wrap IntKind.u64 i20) (IntKind.wrap IntKind.u64 (↑(ByteArray.size w1) : Int))) - 1))) == 32) (∃ w429 w430, C 9 [IV.d (D.int IntKind.i64 w18)] = some (IV.d (D.int IntKind.i64 w429), [IV.d w430]) ∧ condW (w429 == 1700) (∃ w431 w432, C 9 [IV.d (D.int IntKind.i64 w242)] = some (IV.d (D.int IntKind.i64 w431), [IV.d w432]) ∧ condW (w431 == 1700) (∃ w433 w434, C 9 [IV.d (D.int IntKind.i64 w354)] = some (IV.d (D.int IntKind.i64 w433), [IV.d w434]) ∧ condW (w433 == 1700) (∃ w435 w436, C 9 [IV.d (D.int IntKind.i64 w410)] = some (IV.d (D.int IntKind.i64 w435), [IV.d w436]) ∧ condW (w435 == 1700) (Q (some (IV.d (D.bool true), [IV.d (D.sl 4 z1 x2 e3), IV.d (D.agg [D.int IntKind.i64 i4, D.int IntKind.i64 i5, D.int IntKind.i64 i6, D.int IntKind.i64 i7, D.int IntKind.i64 i8, D.int IntKind.i64 i9, D.int IntKind.i64 i10, D.sl 2 z11 x12 e13, D.sl 1 z14 x15 e16, D.sl 2 z17 x18 e19]), IV.d (D.int IntKind.i64 i20)]))) (Q (some (IV.d (D.bool false), [IV.d (D.sl 4 z1 x2 e3), IV.d (D.agg [D.int IntKind.i64 i4, D.int IntKind.i64 i5, D.int IntKind.i64 i6, D.int IntKind.i64 i7, D.int IntKind.i64 i8, D.int IntKind.i64 i9, D.int IntKind.i64 i10, D.sl 2 z11 x12 e13, D.sl 1 z14 x15 e16, D.sl 2 z17 x18 e19]), IV.d (D.int IntKind.i64 i20)])))) (Q (some (IV.d (D.bool false), [IV.d (D.sl 4 z1 x2 e3), IV.d (D.agg [D.int IntKind.i64 i4, D.int IntKind.i64 i5, D.int IntKind.i64 i6, D.int IntKind.i64 i7, D.int IntKind.i64 i8, D.int IntKind.i64 i9, D.int IntKind.i64 i10, D.sl 2 z11 x12 e13, D.sl 1 z14 x15 e16, D.sl 2 z17 x18 e19]), IV.d (D.int IntKind.i64 i20)])))) (Q (some (IV.d (D.bool false), [IV.d (D.sl 4 z1 x2 e3), IV.d (D.agg [D.int IntKind.i64 i4, D.int IntKind.i64 i5, D.int IntKind.i64 i6, D.int IntKind.i64 i7, D.int IntKind.i64 i8, D.int IntKind.i64 i9, D.int IntKind.i64 i10, D.sl 2 z11 x12 e13, D.sl 1 z14 x15 e16, D.sl 2 z17 x18 e19]), IV.d (D.int IntKind.i64 i20)])))) (Q (some (IV.d (D.bool false), [IV.d (D.sl 4 z1 x2 e3), IV.d (D.agg [D.int IntKind.i64 i4, D.int IntKind.i64 i5, D.int IntKind.i64 i6, D.int IntKind.i64 i7, D.int IntKind.i64 i8, D.int IntKind.i64 i9, D.int IntKind.i64 i10, D.sl 2 z11 x12 e13, D.sl 1 z14 x15 e16, D.sl 2 z17 x18 e19]), IV.d (D.int IntKind.i64 i20)])))) (∃ w437 w438, C 9 [IV.d (D.int IntKind.i64 w242)] = some (IV.d (D.int IntKind.i64 w437), [IV.d w438]) ∧ condW (w437 == 1700) (∃ w439 w440, C 9 [IV.d (D.int IntKind.i64 w354)] = some (IV.d (D.int IntKind.i64 w439), [IV.d w440]) ∧ condW (w439 == 1700) (∃ w441 w442, C 9 [IV.d (D.int IntKind.i64 w410)] = some (IV.d (D.int IntKind.i64 w441), [IV.d w442]) ∧ condW (w441 == 1700) (Q (some (IV.d (D.bool true), [IV.d (D.sl 4 z1 x2 e3), IV.d (D.agg [D.int IntKind.i64 i4, D.int IntKind.i64 i5, D.int IntKind.i64 i6, D.int IntKind.i64 i7, D.int IntKind.i64 i8, D.int IntKind.i64 i9, D.int IntKind.i64 i10, D.sl 2 z11 x12 e13, D.sl 1 z14 x15 e16, D.sl 2 z17 x18 e19]), IV.d (D.int IntKind.i64 i20)]))) (Q (some (IV.d (D.bool false), [IV.d (D.sl 4 z1 x2 e3), IV.d (D.agg [D.int IntKind.i64 i4, D.int IntKind.i64 i5, D.int IntKind.i64 i6, D.int IntKind.i64 i7, D.int IntKind.i64 i8, D.int IntKind.i64 i9, D.int IntKind.i64 i10, D.sl 2 z11 x12 e13, D.sl 1 z14 x15 e16, D.sl 2 z17 x18 e19]), IV.d (D.int IntKind.i64 i20)])))) (Q (some (IV.d (D.bool false), [IV.d (D.sl 4 z1 x2 e3), IV.d (D.agg [D.int IntKind.i64 i4, D.int IntKind.i64 i5, D.int IntKind.i64 i6, D.int IntKind.i64 i7, D.int IntKind.i64 i8, D.int IntKind.i64 i9, D.int IntKind.i64 i10, D.sl 2 z11 x12 e13, D.sl 1 z14 x15 e16, D.sl 2 z17 x18 e19]), IV.d (D.int IntKind.i64 i20)])))) (Q (some (IV.d (D.bool false), [IV.d (D.sl 4 z1 x2 e3), IV.d (D.agg [D.int IntKind.i64 i4, D.int IntKind.i64 i5, D.int IntKind.i64 i6, D.int IntKind.i64 i7, D.int IntKind.i64 i8, D.int IntKind.i64 i9, D.int IntKind.i64 i10, D.sl 2 z11 x12 e13, D.sl 1 z14 x15 e16, D.sl 2 z17 x18 e19]), IV.d (D.int IntKind.i64 i20)]))))) False) False))) False) False) False) False) False) ∨ ∃ w443 w444 w445 w446 w447 w448 w449 w450 w451 w452 w453 w454 w455 w456 w457 w458, C 11 [IV.d (D.sl 4 z1 x2 e3), IV.d (D.str (ByteArray.extract w1 (Int.toNat 0) (Int.toNat (IntKind.wrap IntKind.i64 (Int.tmod (IntKind.wrap IntKind.u64 i20) (IntKind.wrap IntKind.u64 (↑(ByteArray.size w1) : Int))))) ++ { data := #[32] } ++ ByteArray.extract w1 (Int.toNat (IntKind.wrap IntKind.i64 (Int.tmod (IntKind.wrap IntKind.u64 i20) (IntKind.wrap IntKind.u64 (↑(ByteArray.size w1) : Int))))) (Int.toNat (↑(ByteArray.size w1) : Int))))] = some (IV.tup [IV.agg [IV.d (D.int IntKind.i64 w443), IV.d (D.int IntKind.i64 w444), IV.d (D.int IntKind.i64 w445), IV.d (D.int IntKind.i64 w446), IV.d (D.int IntKind.i64 w447), IV.d (D.int IntKind.i64 w448), IV.d (D.int IntKind.i64 w449), IV.own w450 44 2 w451, IV.own w452 42 1 w453, IV.own w454 44 2 w455], IV.d (D.int IntKind.i64 w456)], [IV.d w457, IV.d w458]) ∧ condW (decide (ByteArray.size { data := #[32] } + ByteArray.size w1 ≤ 9223372036854775807)) ((∃ w459 w460 w461 w462 w463 w464 w465 w466 w467 w468, C 11 [IV.d (D.sl 4 z1 x2 e3), IV.d (D.str ({ data := #[32] } ++ w1))] = some (IV.tup [IV.d (D.agg [D.int IntKind.i64 w459, D.int IntKind.i64 w460, D.int IntKind.i64 w461, D.int IntKind.i64 w462, D.int IntKind.i64 w463, D.int IntKind.i64 w464, D.int IntKind.i64 w465, D.sl 2 true [] [], D.sl 1 true [] [], D.sl 2 true [] []]), IV.d (D.int IntKind.i64 w466)], [IV.d w467, IV.d w468]) ∧ condW (decide (ByteArray.size { data := #[48] } + ByteArray.size w1 ≤ 9223372036854775807)) ((∃ w469 w470 w471 w472 w473 w474 w475 w476 w477 w478, C 11 [IV.d (D.sl 4 z1 x2 e3), IV.d (D.str ({ data := #[48] } ++ w1))] = some (IV.tup [IV.d (D.agg [D.int IntKind.i64 w469, D.int IntKind.i64 w470, D.int IntKind.i64 w471, D.int IntKind.i64 w472, D.int IntKind.i64 w473, D.int IntKind.i64 w474, D.int IntKind.i64 w475, D.sl 2 true [] [], D.sl 1 true [] [], D.sl 2 true [] []]), IV.d (D.int IntKind.i64 w476)], [IV.d w477, IV.d w478]) ∧ condW (decide (ByteArray.size w1 + ByteArray.size { data := #[32, 48] } ≤ 9223372036854775807)) ((∃ w479 w480 w481 w482 w483 w484 w485 w486 w487 w488, C 11 [IV.d (D.sl 4 z1 x2 e3), IV.d (D.str (w1 ++ { data := #[32, 48] }))] = some (IV.tup [IV.d (D.agg [D.int IntKind.i64 w479, D.int IntKind.i64 w480, D.int IntKind.i64 w481, D.int IntKind.i64 w482, D.int IntKind.i64 w483, D.int IntKind.i64 w484, D.int IntKind.i64 w485, D.sl 2 true [] [], D.sl 1 true [] [], D.sl 2 true [] []]), IV.d (D.int IntKind.i64 w486)], [IV.d w487, IV.d w488]) ∧ condW (decide (0 ≤ IntKind.wrap IntKind.i64 (Int.tmod (IntKind.wrap IntKind.u64 i20) (IntKind.wrap IntKind.u64 (↑(ByteArray.size w1) : Int))))) (condW (decide (IntKind.wrap IntKind.i64 (Int.tmod (IntKind.wrap IntKind.u64 i20) (IntKind.wrap IntKind.u64 (↑(ByteArray.size w1) : Int))) < (↑(ByteArray.size w1) : Int))) (condW (byteAt w1 (Int.toNat (IntKind.wrap IntKind.i64 (Int.tmod (IntKind.wrap IntKind.u64 i20) (IntKind.wrap IntKind.u64 (↑(ByteArray.size w1) : Int))))) == 32) (∃ w489 w490, C 9 [IV.d (D.int IntKind.i64 w456)] = some (IV.d (D.int IntKind.i64 w489), [IV.d w490]) ∧ condW (w489 == 1700) (∃ w491 w492, C 9 [IV.d (D.int IntKind.i64 w466)] = some (IV.d (D.int IntKind.i64 w491), [IV.d w492]) ∧ condW (w491 == 1700) (∃ w493 w494, C 9 [IV.d (D.int IntKind.i64 w476)] = some (IV.d (D.int IntKind.i64 w493), [IV.d w494]) ∧ condW (w493 == 1700) (∃ w495 w496, C 9 [IV.d (D.int IntKind.i64 w486)] = some (IV.d (D.int IntKind.i64 w495), [IV.d w496]) ∧ condW (w495 == 1700) (Q (some (IV.d (D.bool true), [IV.d (D.sl 4 z1 x2 e3), IV.d (D.agg [D.int IntKind.i64 i4, D.int IntKind.i64 i5, D.int IntKind.i64 i6, D.int IntKind.i64 i7, D.int IntKind.i64 i8, D.int IntKind.i64 i9, D.int IntKind.i64 i10, D.sl 2 z11 x12 e13, D.sl 1 z14 x15 e16, D.sl 2 z17 x18 e19]), IV.d (D.int IntKind.i64 i20)]))) (Q (some (IV.d (D.bool false), [IV.d (D.sl 4 z1 x2 e3), IV.d (D.agg [D.int IntKind.i64 i4, D.int IntKind.i64 i5, D.int IntKind.i64 i6, D.int IntKind.i64 i7, D.int IntKind.i64 i8, D.int IntKind.i64 i9, D.int IntKind.i64 i10, D.sl 2 z11 x12 e13, D.sl 1 z14 x15 e16, D.sl 2 z17 x18 e19]), IV.d (D.int IntKind.i64 i20)])))) (Q (some (IV.d (D.bool false), [IV.d (D.sl 4 z1 x2 e3), IV.d (D.agg [D.int IntKind.i64 i4, D.int IntKind.i64 i5, D.int IntKind.i64 i6, D.int IntKind.i64 i7, D.int IntKind.i64 i8, D.int IntKind.i64 i9, D.int IntKind.i64 i10, D.sl 2 z11 x12 e13, D.sl 1 z14 x15 e16, D.sl 2 z17 x18 e19]), IV.d (D.int IntKind.i64 i20)])))) (Q (some (IV.d (D.bool false), [IV.d (D.sl 4 z1 x2 e3), IV.d (D.agg [D.int IntKind.i64 i4, D.int IntKind.i64 i5, D.int IntKind.i64 i6, D.int IntKind.i64 i7, D.int IntKind.i64 i8, D.int IntKind.i64 i9, D.int IntKind.i64 i10, D.sl 2 z11 x12 e13, D.sl 1 z14 x15 e16, D.sl 2 z17 x18 e19]), IV.d (D.int IntKind.i64 i20)])))) (Q (some (IV.d (D.bool false), [IV.d (D.sl 4 z1 x2 e3), IV.d (D.agg [D.int IntKind.i64 i4, D.int IntKind.i64 i5, D.int IntKind.i64 i6, D.int IntKind.i64 i7, D.int IntKind.i64 i8, D.int IntKind.i64 i9, D.int IntKind.i64 i10, D.sl 2 z11 x12 e13, D.sl 1 z14 x15 e16, D.sl 2 z17 x18 e19]), IV.d (D.int IntKind.i64 i20)])))) (condW (IntKind.wrap IntKind.i64 (Int.tmod (IntKind.wrap IntKind.u64 i20) (IntKind.wrap IntKind.u64 (↑(ByteArray.size w1) : Int))) == 0) (∃ w497 w498, C 9 [IV.d (D.int IntKind.i64 w456)] = some (IV.d (D.int IntKind.i64 w497), [IV.d w498]) ∧ condW (w497 == 1700) (∃ w499 w500, C 9 [IV.d (D.int IntKind.i64 w466)] = some (IV.d (D.int IntKind.i64 w499), [IV.d w500]) ∧ condW (w499 == 1700) (∃ w501 w502, C 9 [IV.d (D.int IntKind.i64 w476)] = some (IV.d (D.int IntKind.i64 w501), [IV.d w502]) ∧ condW (w501 == 1700) (∃ w503 w504, C 9 [IV.d (D.int IntKind.i64 w486)] = some (IV.d (D.int IntKind.i64 w503), [IV.d w504]) ∧ condW (w503 == 1700) (Q (some (IV.d (D.bool true), [IV.d (D.sl 4 z1 x2 e3), IV.d (D.agg [D.int IntKind.i64 i4, D.int IntKind.i64 i5, D.int IntKind.i64 i6, D.int IntKind.i64 i7, D.int IntKind.i64 i8, D.int IntKind.i64 i9, D.int IntKind.i64 i10, D.sl 2 z11 x12 e13, D.sl 1 z14 x15 e16, D.sl 2 z17 x18 e19]), IV.d (D.int IntKind.i64 i20)]))) (Q (some (IV.d (D.bool false), [IV.d (D.sl 4 z1 x2 e3), IV.d (D.agg [D.int IntKind.i64 i4, D.int IntKind.i64 i5, D.int IntKind.i64 i6, D.int IntKind.i64 i7, D.int IntKind.i64 i8, D.int IntKind.i64 i9, D.int IntKind.i64 i10, D.sl 2 z11 x12 e13, D.sl 1 z14 x15 e16, D.sl 2 z17 x18 e19]), IV.d (D.int IntKind.i64 i20)])))) (Q (some (IV.d (D.bool false), [IV.d (D.sl 4 z1 x2 e3), IV.d (D.agg [D.int IntKind.i64 i4, D.int IntKind.i64 i5, D.int IntKind.i64 i6, D.int IntKind.i64 i7, D.int IntKind.i64 i8, D.int IntKind.i64 i9, D.int IntKind.i64 i10, D.sl 2 z11 x12 e13, D.sl 1 z14 x15 e16, D.sl 2 z17 x18 e19]), IV.d (D.int IntKind.i64 i20)])))) (Q (some (IV.d (D.bool false), [IV.d (D.sl 4 z1 x2 e3), IV.d (D.agg [D.int IntKind.i64 i4, D.int IntKind.i64 i5, D.int IntKind.i64 i6, D.int IntKind.i64 i7, D.int IntKind.i64 i8, D.int IntKind.i64 i9, D.int IntKind.i64 i10, D.sl 2 z11 x12 e13, D.sl 1 z14 x15 e16, D.sl 2 z17 x18 e19]), IV.d (D.int IntKind.i64 i20)])))) (Q (some (IV.d (D.bool false), [IV.d (D.sl 4 z1 x2 e3), IV.d (D.agg [D.int IntKind.i64 i4, D.int IntKind.i64 i5, D.int IntKind.i64 i6, D.int IntKind.i64 i7, D.int IntKind.i64 i8, D.int IntKind.i64 i9, D.int IntKind.i64 i10, D.sl 2 z11 x12 e13, D.sl 1 z14 x15 e16, D.sl 2 z17 x18 e19]), IV.d (D.int IntKind.i64 i20)])))) (condW (decide (0 ≤ IntKind.wrap IntKind.i64 (IntKind.wrap IntKind.i64 (Int.tmod (IntKind.wrap IntKind.u64 i20) (IntKind.wrap IntKind.u64 (↑(ByteArray.size w1) : Int))) - 1))) (condW (decide (IntKind.wrap IntKind.i64 (IntKind.wrap IntKind.i64 (Int.tmod (IntKind.wrap IntKind.u64 i20) (IntKind.wrap IntKind.u64 (↑(ByteArray.size w1) : Int))) - 1) < (↑(ByteArray.size w1) : Int))) (condW (byteAt w1 (Int.toNat (IntKind.wrap IntKind.i64 (IntKind.wrap IntKind.i64 (Int.tmod (IntKind.wrap IntKind.u64 i20) (IntKind.wrap IntKind.u64 (↑(ByteArray.size w1) : Int))) - 1))) == 32) (∃ w505 w506, C 9 [IV.d (D.int IntKind.i64 w456)] = some (IV.d (D.int IntKind.i64 w505), [IV.d w506]) ∧ condW (w505 == 1700) (∃ w507 w508, C 9 [IV.d (D.int IntKind.i64 w466)] = some (IV.d (D.int IntKind.i64 w507), [IV.d w508]) ∧ condW (w507 == 1700) (∃ w509 w510, C 9 [IV.d (D.int IntKind.i64 w476)] = some (IV.d (D.int IntKind.i64 w509), [IV.d w510]) ∧ condW (w509 == 1700) (∃ w511 w512, C 9 [IV.d (D.int IntKind.i64 w486)] = some (IV.d (D.int IntKind.i64 w511), [IV.d w512]) ∧ condW (w511 == 1700) (Q (some (IV.d (D.bool true), [IV.d (D.sl 4 z1 x2 e3), IV.d (D.agg [D.int IntKind.i64 i4, D.int IntKind.i64 i5, D.int IntKind.i64 i6, D.int IntKind.i64 i7, D.int IntKind.i64 i8, D.int IntKind.i64 i9, D.int IntKind.i64 i10, D.sl 2 z11 x12 e13, D.sl 1 z14 x15 e16, D.sl 2 z17 x18 e19]), IV.d (D.int IntKind.i64 i20)]))) (Q (some (IV.d (D.bool false), [IV.d (D.sl 4 z1 x2 e3), IV.d (D.agg [D.int IntKind.i64 i4, D.int IntKind.i64 i5, D.int IntKind.i64 i6, D.int IntKind.i64 i7, D.int IntKind.i64 i8, D.int IntKind.i64 i9, D.int IntKind.i64 i10, D.sl 2 z11 x12 e13, D.sl 1 z14 x15 e16, D.sl 2 z17 x18 e19]), IV.d (D.int IntKind.i64 i20)])))) (Q (some (IV.d (D.bool false), [IV.d (D.sl 4 z1 x2 e3), IV.d (D.agg [D.int IntKind.i64 i4, D.int IntKind.i64 i5, D.int IntKind.i64 i6, D.int IntKind.i64 i7, D.int IntKind.i64 i8, D.int IntKind.i64 i9, D.int IntKind.i64 i10, D.sl 2 z11 x12 e13, D.sl 1 z14 x15 e16, D.sl 2 z17 x18 e19]), IV.d (D.int IntKind.i64 i20)])))) (Q (some (IV.d (D.bool false), [IV.d (D.sl 4 z1 x2 e3), IV.d (D.agg [D.int IntKind.i64 i4, D.int IntKind.i64 i5, D.int IntKind.i64 i6, D.int IntKind.i64 i7, D.int IntKind.i64 i8, D.int IntKind.i64 i9, D.int IntKind.i64 i10, D.sl 2 z11 x12 e13, D.sl 1 z14 x15 e16, D.sl 2 z17 x18 e19]), IV.d (D.int IntKind.i64 i20)])))) (Q (some (IV.d (D.bool false), [IV.d (D.sl 4 z1 x2 e3), IV.d (D.agg [D.int IntKind.i64 i4, D.int IntKind.i64 i5, D.int IntKind.i64 i6, D.int IntKind.i64 i7, D.int IntKind.i64 i8, D.int IntKind.i64 i9, D.int IntKind.i64 i10, D.sl 2 z11 x12 e13, D.sl 1 z14 x15 e16, D.sl 2 z17 x18 e19]), IV.d (D.int IntKind.i64 i20)])))) (∃ w513 w514, C 9 [IV.d (D.int IntKind.i64 w466)] = some (IV.d (D.int IntKind.i64 w513), [IV.d w514]) ∧ condW (w513 == 1700) (∃ w515 w516, C 9 [IV.d (D.int IntKind.i64 w476)] = some (IV.d (D.int IntKind.i64 w515), [IV.d w516]) ∧ condW (w515 == 1700) (∃ w517 w518, C 9 [IV.d (D.int IntKind.i64 w486)] = some (IV.d (D.int IntKind.i64 w517), [IV.d w518]) ∧ condW (w517 == 1700) (Q (some (IV.d (D.bool true), [IV.d (D.sl 4 z1 x2 e3), IV.d (D.agg [D.int IntKind.i64 i4, D.int IntKind.i64 i5, D.int IntKind.i64 i6, D.int IntKind.i64 i7, D.int IntKind.i64 i8, D.int IntKind.i64 i9, D.int IntKind.i64 i10, D.sl 2 z11 x12 e13, D.sl 1 z14 x15 e16, D.sl 2 z17 x18 e19]), IV.d (D.int IntKind.i64 i20)]))) (Q (some (IV.d (D.bool false), [IV.d (D.sl 4 z1 x2 e3), IV.d (D.agg [D.int IntKind.i64 i4, D.int IntKind.i64 i5, D.int IntKind.i64 i6, D.int IntKind.i64 i7, D.int IntKind.i64 i8, D.int IntKind.i64 i9, D.int IntKind.i64 i10, D.sl 2 z11 x12 e13, D.sl 1 z14 x15 e16, D.sl 2 z17 x18 e19]), IV.d (D.int IntKind.i64 i20)])))) (Q (some (IV.d (D.bool false), [IV.d (D.sl 4 z1 x2 e3), IV.d (D.agg [D.int IntKind.i64 i4, D.int IntKind.i64 i5, D.int IntKind.i64 i6, D.int IntKind.i64 i7, D.int IntKind.i64 i8, D.int IntKind.i64 i9, D.int IntKind.i64 i10, D.sl 2 z11 x12 e13, D.sl 1 z14 x15 e16, D.sl 2 z17 x18 e19]), IV.d (D.int IntKind.i64 i20)])))) (Q (some (IV.d (D.bool false), [IV.d (D.sl 4 z1 x2 e3), IV.d (D.agg [D.int IntKind.i64 i4, D.int IntKind.i64 i5, D.int IntKind.i64 i6, D.int IntKind.i64 i7, D.int IntKind.i64 i8, D.int IntKind.i64 i9, D.int IntKind.i64 i10, D.sl 2 z11 x12 e13, D.sl 1 z14 x15 e16, D.sl 2 z17 x18 e19]), IV.d (D.int IntKind.i64 i20)]))))) False) False))) False) False) ∨ ∃ w519 w520 w521 w522 w523 w524 w525 w526 w527 w528 w529 w530 w531 w532 w533 w534, C 11 [IV.d (D.sl 4 z1 x2 e3), IV.d (D.str (w1 ++ { data := #[32, 48] }))] = some (IV.tup [IV.agg [IV.d (D.int IntKind.i64 w519), IV.d (D.int IntKind.i64 w520), IV.d (D.int IntKind.i64 w521), IV.d (D.int IntKind.i64 w522), IV.d (D.int IntKind.i64 w523), IV.d (D.int IntKind.i64 w524), IV.d (D.int IntKind.i64 w525), IV.own w526 44 2 w527, IV.own w528 42 1 w529, IV.own w530 44 2 w531], IV.d (D.int IntKind.i64 w532)], [IV.d w533, IV.d w534]) ∧ condW (decide (0 ≤ IntKind.wrap IntKind.i64 (Int.tmod (IntKind.wrap IntKind.u64 i20) (IntKind.wrap IntKind.u64 (↑(ByteArray.size w1) : Int))))) (condW (decide (IntKind.wrap IntKind.i64 (Int.tmod (IntKind.wrap IntKind.u64 i20) (IntKind.wrap IntKind.u64 (↑(ByteArray.size w1) : Int))) < (↑(ByteArray.size w1) : Int))) (condW (byteAt w1 (Int.toNat (IntKind.wrap IntKind.i64 (Int.tmod (IntKind.wrap IntKind.u64 i20) (IntKind.wrap IntKind.u64 (↑(ByteArray.size w1) : Int))))) == 32) (∃ w535 w536, C 9 [IV.d (D.int IntKind.i64 w456)] = some (IV.d (D.int IntKind.i64 w535), [IV.d w536]) ∧ condW (w535 == 1700) (∃ w537 w538, C 9 [IV.d (D.int IntKind.i64 w466)] = some (IV.d (D.int IntKind.i64 w537), [IV.d w538]) ∧ condW (w537 == 1700) (∃ w539 w540, C 9 [IV.d (D.int IntKind.i64 w476)] = some (IV.d (D.int IntKind.i64 w539), [IV.d w540]) ∧ condW (w539 == 1700) (∃ w541 w542, C 9 [IV.d (D.int IntKind.i64 w532)] = some (IV.d (D.int IntKind.i64 w541), [IV.d w542]) ∧ condW (w541 == 1700) (Q (some (IV.d (D.bool true), [IV.d (D.sl 4 z1 x2 e3), IV.d (D.agg [D.int IntKind.i64 i4, D.int IntKind.i64 i5, D.int IntKind.i64 i6, D.int IntKind.i64 i7, D.int IntKind.i64 i8, D.int IntKind.i64 i9, D.int IntKind.i64 i10, D.sl 2 z11 x12 e13, D.sl 1 z14 x15 e16, D.sl 2 z17 x18 e19]), IV.d (D.int IntKind.i64 i20)]))) (Q (some (IV.d (D.bool false), [IV.d (D.sl 4 z1 x2 e3), IV.d (D.agg [D.int IntKind.i64 i4, D.int IntKind.i64 i5, D.int IntKind.i64 i6, D.int IntKind.i64 i7, D.int IntKind.i64 i8, D.int IntKind.i64 i9, D.int IntKind.i64 i10, D.sl 2 z11 x12 e13, D.sl 1 z14 x15 e16, D.sl 2 z17 x18 e19]), IV.d (D.int IntKind.i64 i20)])))) (Q (some (IV.d (D.bool false), [IV.d (D.sl 4 z1 x2 e3), IV.d (D.agg [D.int IntKind.i64 i4, D.int IntKind.i64 i5, D.int IntKind.i64 i6, D.int IntKind.i64 i7, D.int IntKind.i64 i8, D.int IntKind.i64 i9, D.int IntKind.i64 i10, D.sl 2 z11 x12 e13, D.sl 1 z14 x15 e16, D.sl 2 z17 x18 e19]), IV.d (D.int IntKind.i64 i20)])))) (Q (some (IV.d (D.bool false), [IV.d (D.sl 4 z1 x2 e3), IV.d (D.agg [D.int IntKind.i64 i4, D.int IntKind.i64 i5, D.int IntKind.i64 i6, D.int IntKind.i64 i7, D.int IntKind.i64 i8, D.int IntKind.i64 i9, D.int IntKind.i64 i10, D.sl 2 z11 x12 e13, D.sl 1 z14 x15 e16, D.sl 2 z17 x18 e19]), IV.d (D.int IntKind.i64 i20)])))) (Q (some (IV.d (D.bool false), [IV.d (D.sl 4 z1 x2 e3), IV.d (D.agg [D.int IntKind.i64 i4, D.int IntKind.i64 i5, D.int IntKind.i64 i6, D.int IntKind.i64 i7, D.int IntKind.i64 i8, D.int IntKind.i64 i9, D.int IntKind.i64 i10, D.sl 2 z11 x12 e13, D.sl 1 z14 x15 e16, D.sl 2 z17 x18 e19]), IV.d (D.int IntKind.i64 i20)])))) (condW (IntKind.wrap IntKind.i64 (Int.tmod (IntKind.wrap IntKind.u64 i20) (IntKind.wrap IntKind.u64 (↑(ByteArray.size w1) : Int))) == 0) (∃ w543 w544, C 9 [IV.d (D.int IntKind.i64 w456)] = some (IV.d (D.int IntKind.i64 w543), [IV.d w544]) ∧ condW (w543 == 1700) (∃ w545 w546, C 9 [IV.d (D.int IntKind.i64 w466)] = some (IV.d (D.int IntKind.i64 w545), [IV.d w546]) ∧ condW (w545 == 1700) (∃ w547 w548, C 9 [IV.d (D.int IntKind.i64 w476)] = some (IV.d (D.int IntKind.i64 w547), [IV.d w548]) ∧ condW (w547 == 1700) (∃ w549 w550, C 9 [IV.d (D.int IntKind.i64 w532)] = some (IV.d (D.int IntKind.i64 w549), [IV.d w550]) ∧ condW (w549 == 1700) (Q (some (IV.d (D.bool true), [IV.d (D.sl 4 z1 x2 e3), IV.d (D.agg [D.int IntKind.i64 i4, D.int IntKind.i64 i5, D.int IntKind.i64 i6, D.int IntKind.i64 i7, D.int IntKind.i64 i8, D.int IntKind.i64 i9, D.int IntKind.i64 i10, D.sl 2 z11 x12 e13, D.sl 1 z14 x15 e16, D.sl 2 z17 x18 e19]), IV.d (D.int IntKind.i64 i20)]))) (Q (some (IV.d (D.bool false), [IV.d (D.sl 4 z1 x2 e3), IV.d (D.agg [D.int IntKind.i64 i4, D.int IntKind.i64 i5, D.int IntKind.i64 i6, D.int IntKind.i64 i7, D.int IntKind.i64 i8, D.int IntKind.i64 i9, D.int IntKind.i64 i10, D.sl 2 z11 x12 e13, D.sl 1 z14 x15 e16, D.sl 2 z17 x18 e19]), IV.d (D.int IntKind.i64 i20)])))) (Q (some (IV.d (D.bool false), [IV.d (D.sl 4 z1 x2 e3), IV.d (D.agg [D.int IntKind.i64 i4, D.int IntKind.i64 i5, D.int IntKind.i64 i6, D.int IntKind.i64 i7, D.int IntKind.i64 i8, D.int IntKind.i64 i9, D.int IntKind.i64 i10, D.sl 2 z11 x12 e13, D.sl 1 z14 x15 e16, D.sl 2 z17 x18 e19]), IV.d (D.int IntKind.i64 i20)])))) (Q (some (IV.d (D.bool false), [IV.d (D.sl 4 z1 x2 e3), IV.d (D.agg [D.int IntKind.i64 i4, D.int IntKind.i64 i5, D.int IntKind.i64 i6, D.int IntKind.i64 i7, D.int IntKind.i64 i8, D.int IntKind.i64 i9, D.int IntKind.i64 i10, D.sl 2 z11 x12 e13, D.sl 1 z14 x15 e16, D.sl 2 z17 x18 e19]), IV.d (D.int IntKind.i64 i20)])))) (Q (some (IV.d (D.bool false), [IV.d (D.sl 4 z1 x2 e3), IV.d (D.agg [D.int IntKind.i64 i4, D.int IntKind.i64 i5, D.int IntKind.i64 i6, D.int IntKind.i64 i7, D.int IntKind.i64 i8, D.int IntKind.i64 i9, D.int IntKind.i64 i10, D.sl 2 z11 x12 e13, D.sl 1 z14 x15 e16, D.sl 2 z17 x18 e19]), IV.d (D.int IntKind.i64 i20)])))) (condW (decide (0 ≤ IntKind.wrap IntKind.i64 (IntKind.wrap IntKind.i64 (Int.tmod (IntKind.wrap IntKind.u64 i20) (IntKind.wrap IntKind.u64 (↑(ByteArray.size w1) : Int))) - 1))) (condW (decide (IntKind.wrap IntKind.i64 (IntKind.wrap IntKind.i64 (Int.tmod (IntKind.wrap IntKind.u64 i20) (IntKind.wrap IntKind.u64 (↑(ByteArray.size w1) : Int))) - 1) < (↑(ByteArray.size w1) : Int))) (condW (byteAt w1 (Int.toNat (IntKind.wrap IntKind.i64 (IntKind.wrap IntKind.i64 (Int.tmod (IntKind.wrap IntKind.u64 i20) (IntKind.wrap IntKind.u64 (↑(ByteArray.size w1) : Int))) - 1))) == 32) (∃ w551 w552, C 9 [IV.d (D.int IntKind.i64 w456)] = some (IV.d (D.int IntKind.i64 w551), [IV.d w552]) ∧ condW (w551 == 1700) (∃ w553 w554, C 9 [IV.d (D.int IntKind.i64 w466)] = some (IV.d (D.int IntKind.i64 w553), [IV.d w554]) ∧ condW (w553 == 1700) (∃ w555 w556, C 9 [IV.d (D.int IntKind.i64 w476)] = some (IV.d (D.int IntKind.i64 w555), [IV.d w556]) ∧ condW (w555 == 1700) (∃ w557 w558, C 9 [IV.d (D.int IntKind.i64 w532)] = some (IV.d (D.int IntKind.i64 w557), [IV.d w558]) ∧ condW (w557 == 1700) (Q (some (IV.d (D.bool true), [IV.d (D.sl 4 z1 x2 e3), IV.d (D.agg [D.int IntKind.i64 i4, D.int IntKind.i64 i5, D.int IntKind.i64 i6, D.int IntKind.i64 i7, D.int IntKind.i64 i8, D.int IntKind.i64 i9, D.int IntKind.i64 i10, D.sl 2 z11 x12 e13, D.sl 1 z14 x15 e16, D.sl 2 z17 x18 e19]), IV.d (D.int IntKind.i64 i20)]))) (Q (some (IV.d (D.bool false), [IV.d (D.sl 4 z1 x2 e3), IV.d (D.agg [D.int IntKind.i64 i4, D.int IntKind.i64 i5, D.int IntKind.i64 i6, D.int IntKind.i64 i7, D.int IntKind.i64 i8, D.int IntKind.i64 i9, D.int IntKind.i64 i10, D.sl 2 z11 x12 e13, D.sl 1 z14 x15 e16, D.sl 2 z17 x18 e19]), IV.d (D.int IntKind.i64 i20)])))) (Q (some (IV.d (D.bool false), [IV.d (D.sl 4 z1 x2 e3), IV.d (D.agg [D.int IntKind.i64 i4, D.int IntKind.i64 i5, D.int IntKind.i64 i6, D.int IntKind.i64 i7, D.int IntKind.i64 i8, D.int IntKind.i64 i9, D.int IntKind.i64 i10, D.sl 2 z11 x12 e13, D.sl 1 z14 x15 e16, D.sl 2 z17 x18 e19]), IV.d (D.int IntKind.i64 i20)])))) (Q (some (IV.d (D.bool false), [IV.d (D.sl 4 z1 x2 e3), IV.d (D.agg [D.int IntKind.i64 i4, D.int IntKind.i64 i5, D.int IntKind.i64 i6, D.int IntKind.i64 i7, D.int IntKind.i64 i8, D.int IntKind.i64 i9, D.int IntKind.i64 i10, D.sl 2 z11 x12 e13, D.sl 1 z14 x15 e16, D.sl 2 z17 x18 e19]), IV.d (D.int IntKind.i64 i20)])))) (Q (some (IV.d (D.bool false), [IV.d (D.sl 4 z1 x2 e3), IV.d (D.agg [D.int IntKind.i64 i4, D.int IntKind.i64 i5, D.int IntKind.i64 i6, D.int IntKind.i64 i7, D.int IntKind.i64 i8, D.int IntKind.i64 i9, D.int IntKind.i64 i10, D.sl 2 z11 x12 e13, D.sl 1 z14 x15 e16, D.sl 2 z17 x18 e19]), IV.d (D.int IntKind.i64 i20)])))) (∃ w559 w560, C 9 [IV.d (D.int IntKind.i64 w466)] = some (IV.d (D.int IntKind.i64 w559), [IV.d w560]) ∧ condW (w559 == 1700) (∃ w561 w562, C 9 [IV.d (D.int IntKind.i64 w476)] = some (IV.d (D.int IntKind.i64 w561), [IV.d w562]) ∧ condW (w561 == 1700) (∃ w563 w564, C 9 [IV.d (D.int IntKind.i64 w532)] = some (IV.d (D.int IntKind.i64 w563), [IV.d w564]) ∧ condW (w563 == 1700) (Q (some (IV.d (D.bool true), [IV.d (D.sl 4 z1 x2 e3), IV.d (D.agg [D.int IntKind.i64 i4, D.int IntKind.i64 i5, D.int IntKind.i64 i6, D.int IntKind.i64 i7, D.int IntKind.i64 i8, D.int IntKind.i64 i9, D.int IntKind.i64 i10, D.sl 2 z11 x12 e13, D.sl 1 z14 x15 e16, D.sl 2 z17 x18 e19]), IV.d (D.int IntKind.i64 i20)]))) (Q (some (IV.d (D.bool false), [IV.d (D.sl 4 z1 x2 e3), IV.d (D.agg [D.int IntKind.i64 i4, D.int IntKind.i64 i5, D.int IntKind.i64 i6, D.int IntKind.i64 i7, D.int IntKind.i64 i8, D.int IntKind.i64 i9, D.int IntKind.i64 i10, D.sl 2 z11 x12 e13, D.sl 1 z14 x15 e16, D.sl 2 z17 x18 e19]), IV.d (D.int IntKind.i64 i20)])))) (Q (some (IV.d (D.bool false), [IV.d (D.sl 4 z1 x2 e3), IV.d (D.agg [D.int IntKind.i64 i4, D.int IntKind.i64 i5, D.int IntKind.i64 i6, D.int IntKind.i64 i7, D.int IntKind.i64 i8, D.int IntKind.i64 i9, D.int IntKind.i64 i10, D.sl 2 z11 x12 e13, D.sl 1 z14 x15 e16, D.sl 2 z17 x18 e19]), IV.d (D.int IntKind.i64 i20)])))) (Q (some (IV.d (D.bool false), [IV.d (D.sl 4 z1 x2 e3), IV.d (D.agg [D.int IntKind.i64 i4, D.int IntKind.i64 i5, D.int IntKind.i64 i6, D.int IntKind.i64 i7, D.int IntKind.i64 i8, D.int IntKind.i64 i9, D.int IntKind.i64 i10, D.sl 2 z11 x12 e13, D.sl 1 z14 x15 e16, D.sl 2 z17 x18 e19]), IV.d (D.int IntKind.i64 i20)]))))) False) False))) False) False) False) ∨ ∃ w565 w566 w567 w568 w569 w570 w571 w572 w573 w574 w575 w576 w577 w578 w579 w580, C 11 [IV.d (D.sl 4 z1 x2 e3), IV.d (D.str ({ data := #[48] } ++ w1))] = some (IV.tup [IV.agg [IV.d (D.int IntKind.i64 w565), IV.d (D.int IntKind.i64 w566), IV.d (D.int IntKind.i64 w567), IV.d (D.int IntKind.i64 w568), IV.d (D.int IntKind.i64 w569), IV.d (D.int IntKind.i64 w570), IV.d (D.int IntKind.i64 w571), IV.own w572 44 2 w573, IV.own w574 42 1 w575, IV.own w576 44 2 w577], IV.d (D.int IntKind.i64 w578)], [IV.d w579, IV.d w580]) ∧ condW (decide (ByteArray.size w1 + ByteArray.size { data := #[32, 48] } ≤ 9223372036854775807)) ((∃ w581 w582 w583 w584 w585 w586 w587 w588 w589 w590, C 11 [IV.d (D.sl 4 z1 x2 e3), IV.d (D.str (w1 ++ { data := #[32, 48] }))] = some (IV.tup [IV.d (D.agg [D.int IntKind.i64 w581, D.int IntKind.i64 w582, D.int IntKind.i64 w583, D.int IntKind.i64 w584, D.int IntKind.i64 w585, D.int IntKind.i64 w586, D.int IntKind.i64 w587, D.sl 2 true [] [], D.sl 1 true [] [], D.sl 2 true [] []]), IV.d (D.int IntKind.i64 w588)], [IV.d w589, IV.d w590]) ∧ condW (decide (0 ≤ IntKind.wrap IntKind.i64 (Int.tmod (IntKind.wrap IntKind.u64 i20) (IntKind.wrap IntKind.u64 (↑(ByteArray.size w1) : Int))))) (condW (decide (IntKind.wrap IntKind.i64 (Int.tmod (IntKind.wrap IntKind.u64 i20) (IntKind.wrap IntKind.u64 (↑(ByteArray.size w1) : Int))) < (↑(ByteArray.size w1) : Int))) (condW (byteAt w1 (Int.toNat (IntKind.wrap IntKind.i64 (Int.tmod (IntKind.wrap IntKind.u64 i20) (IntKind.wrap IntKind.u64 (↑(ByteArray.size w1) : Int))))) == 32) (∃ w591 w592, C 9 [IV.d (D.int IntKind.i64 w456)] = some (IV.d (D.int IntKind.i64 w591), [IV.d w592]) ∧ condW (w591 == 1700) (∃ w593 w594, C 9 [IV.d (D.int IntKind.i64 w466)] = some (IV.d (D.int IntKind.i64 w593), [IV.d w594]) ∧ condW (w593 == 1700) (∃ w595 w596, C 9 [IV.d (D.int IntKind.i64 w578)] = some (IV.d (D.int IntKind.i64 w595), [IV.d w596]) ∧ condW (w595 == 1700) (∃ w597 w598, C 9 [IV.d (D.int IntKind.i64 w588)] = some (IV.d (D.int IntKind.i64 w597), [IV.d w598]) ∧ condW (w597 == 1700) (Q (some (IV.d (D.bool true), [IV.d (D.sl 4 z1 x2 e3), IV.d (D.agg [D.int IntKind.i64 i4, D.int IntKind.i64 i5, D.int IntKind.i64 i6, D.int IntKind.i64 i7, D.int IntKind.i64 i8, D.int IntKind.i64 i9, D.int IntKind.i64 i10, D.sl 2 z11 x12 e13, D.sl 1 z14 x15 e16, D.sl 2 z17 x18 e19]), IV.d (D.int IntKind.i64 i20)]))) (Q (some (IV.d (D.bool false), [IV.d (D.sl 4 z1 x2 e3), IV.d (D.agg [D.int IntKind.i64 i4, D.int IntKind.i64 i5, D.int IntKind.i64 i6, D.int IntKind.i64 i7, D.int IntKind.i64 i8, D.int IntKind.i64 i9, D.int IntKind.i64 i10, D.sl 2 z11 x12 e13, D.sl 1 z14 x15 e16, D.sl 2 z17 x18 e19]), IV.d (D.int IntKind.i64 i20)])))) (Q (some (IV.d (D.bool false), [IV.d (D.sl 4 z1 x2 e3), IV.d (D.agg [D.int IntKind.i64 i4, D.int IntKind.i64 i5, D.int IntKind.i64 i6, D.int IntKind.i64 i7, D.int IntKind.i64 i8, D.int IntKind.i64 i9, D.int IntKind.i64 i10, D.sl 2 z11 x12 e13, D.sl 1 z14 x15 e16, D.sl 2 z17 x18 e19]), IV.d (D.int IntKind.i64 i20)])))) (Q (some (IV.d (D.bool false), [IV.d (D.sl 4 z1 x2 e3), IV.d (D.agg [D.int IntKind.i64 i4, D.int IntKind.i64 i5, D.int IntKind.i64 i6, D.int IntKind.i64 i7, D.int IntKind.i64 i8, D.int IntKind.i64 i9, D.int IntKind.i64 i10, D.sl 2 z11 x12 e13, D.sl 1 z14 x15 e16, D.sl 2 z17 x18 e19]), IV.d (D.int IntKind.i64 i20)])))) (Q (some (IV.d (D.bool false), [IV.d (D.sl 4 z1 x2 e3), IV.d (D.agg [D.int IntKind.i64 i4, D.int IntKind.i64 i5, D.int IntKind.i64 i6, D.int IntKind.i64 i7, D.int IntKind.i64 i8, D.int IntKind.i64 i9, D.int IntKind.i64 i10, D.sl 2 z11 x12 e13, D.sl 1 z14 x15 e16, D.sl 2 z17 x18 e19]), IV.d (D.int IntKind.i64 i20)])))) (condW (IntKind.wrap IntKind.i64 (Int.tmod (IntKind.wrap IntKind.u64 i20) (IntKind.wrap IntKind.u64 (↑(ByteArray.size w1) : Int))) == 0) (∃ w599 w600, C 9 [IV.d (D.int IntKind.i64 w456)] = some (IV.d (D.int IntKind.i64 w599), [IV.d w600]) ∧ condW (w599 == 1700) (∃ w601 w602, C 9 [IV.d (D.int IntKind.i64 w466)] = some (IV.d (D.int IntKind.i64 w601), [IV.d w602]) ∧ condW (w601 == 1700) (∃ w603 w604, C 9 [IV.d (D.int IntKind.i64 w578)] = some (IV.d (D.int IntKind.i64 w603), [IV.d w604]) ∧ condW (w603 == 1700) (∃ w605 w606, C 9 [IV.d (D.int IntKind.i64 w588)] = some (IV.d (D.int IntKind.i64 w605), [IV.d w606]) ∧ condW (w605 == 1700) (Q (some (IV.d (D.bool true), [IV.d (D.sl 4 z1 x2 e3), IV.d (D.agg [D.int IntKind.i64 i4, D.int IntKind.i64 i5, D.int IntKind.i64 i6, D.int IntKind.i64 i7, D.int IntKind.i64 i8, D.int IntKind.i64 i9, D.int IntKind.i64 i10, D.sl 2 z11 x12 e13, D.sl 1 z14 x15 e16, D.sl 2 z17 x18 e19]), IV.d (D.int IntKind.i64 i20)]))) (Q (some (IV.d (D.bool false), [IV.d (D.sl 4 z1 x2 e3), IV.d (D.agg [D.int IntKind.i64 i4, D.int IntKind.i64 i5, D.int IntKind.i64 i6, D.int IntKind.i64 i7, D.int IntKind.i64 i8, D.int IntKind.i64 i9, D.int IntKind.i64 i10, D.sl 2 z11 x12 e13, D.sl 1 z14 x15 e16, D.sl 2 z17 x18 e19]), IV.d (D.int IntKind.i64 i20)])))) (Q (some (IV.d (D.bool false), [IV.d (D.sl 4 z1 x2 e3), IV.d (D.agg [D.int IntKind.i64 i4, D.int IntKind.i64 i5, D.int IntKind.i64 i6, D.int IntKind.i64 i7, D.int IntKind.i64 i8, D.int IntKind.i64 i9, D.int IntKind.i64 i10, D.sl 2 z11 x12 e13, D.sl 1 z14 x15 e16, D.sl 2 z17 x18 e19]), IV.d (D.int IntKind.i64 i20)])))) (Q (some (IV.d (D.bool false), [IV.d (D.sl 4 z1 x2 e3), IV.d (D.agg [D.int IntKind.i64 i4, D.int IntKind.i64 i5, D.int IntKind.i64 i6, D.int IntKind.i64 i7, D.int IntKind.i64 i8, D.int IntKind.i64 i9, D.int IntKind.i64 i10, D.sl 2 z11 x12 e13, D.sl 1 z14 x15 e16, D.sl 2 z17 x18 e19]), IV.d (D.int IntKind.i64 i20)])))) (Q (some (IV.d (D.bool false), [IV.d (D.sl 4 z1 x2 e3), IV.d (D.agg [D.int IntKind.i64 i4, D.int IntKind.i64 i5, D.int IntKind.i64 i6, D.int IntKind.i64 i7, D.int IntKind.i64 i8, D.int IntKind.i64 i9, D.int IntKind.i64 i10, D.sl 2 z11 x12 e13, D.sl 1 z14 x15 e16, D.sl 2 z17 x18 e19]), IV.d (D.int IntKind.i64 i20)])))) (condW (decide (0 ≤ IntKind.wrap IntKind.i64 (IntKind.wrap IntKind.i64 (Int.tmod (IntKind.wrap IntKind.u64 i20) (IntKind.wrap IntKind.u64 (↑(ByteArray.size w1) : Int))) - 1))) (condW (decide (IntKind.wrap IntKind.i64 (IntKind.wrap IntKind.i64 (Int.tmod (IntKind.wrap IntKind.u64 i20) (IntKind.wrap IntKind.u64 (↑(ByteArray.size w1) : Int))) - 1) < (↑(ByteArray.size w1) : Int))) (condW (byteAt w1 (Int.toNat (IntKind.wrap IntKind.i64 (IntKind.wrap IntKind.i64 (Int.tmod (IntKind.wrap IntKind.u64 i20) (IntKind.wrap IntKind.u64 (↑(ByteArray.size w1) : Int))) - 1))) == 32) (∃ w607 w608, C 9 [IV.d (D.int IntKind.i64 w456)] = some (IV.d (D.int IntKind.i64 w607), [IV.d w608]) ∧ condW (w607 == 1700) (∃ w609 w610, C 9 [IV.d (D.int IntKind.i64 w466)] = some (IV.d (D.int IntKind.i64 w609), [IV.d w610]) ∧ condW (w609 == 1700) (∃ w611 w612, C 9 [IV.d (D.int IntKind.i64 w578)] = some (IV.d (D.int IntKind.i64 w611), [IV.d w612]) ∧ condW (w611 == 1700) (∃ w613 w614, C 9 [IV.d (D.int IntKind.i64 w588)] = some (IV.d (D.int IntKind.i64 w613), [IV.d w614]) ∧ condW (w613 == 1700) (Q (some (IV.d (D.bool true), [IV.d (D.sl 4 z1 x2 e3), IV.d (D.agg [D.int IntKind.i64 i4, D.int IntKind.i64 i5, D.int IntKind.i64 i6, D.int IntKind.i64 i7, D.int IntKind.i64 i8, D.int IntKind.i64 i9, D.int IntKind.i64 i10, D.sl 2 z11 x12 e13, D.sl 1 z14 x15 e16, D.sl 2 z17 x18 e19]), IV.d (D.int IntKind.i64 i20)]))) (Q (some (IV.d (D.bool false), [IV.d (D.sl 4 z1 x2 e3), IV.d (D.agg [D.int IntKind.i64 i4, D.int IntKind.i64 i5, D.int IntKind.i64 i6, D.int IntKind.i64 i7, D.int IntKind.i64 i8, D.int IntKind.i64 i9, D.int IntKind.i64 i10, D.sl 2 z11 x12 e13, D.sl 1 z14 x15 e16, D.sl 2 z17 x18 e19]), IV.d (D.int IntKind.i64 i20)])))) (Q (some (IV.d (D.bool false), [IV.d (D.sl 4 z1 x2 e3), IV.d (D.agg [D.int IntKind.i64 i4, D.int IntKind.i64 i5, D.int IntKind.i64 i6, D.int IntKind.i64 i7, D.int IntKind.i64 i8, D.int IntKind.i64 i9, D.int IntKind.i64 i10, D.sl 2 z11 x12 e13, D.sl 1 z14 x15 e16, D.sl 2 z17 x18 e19]), IV.d (D.int IntKind.i64 i20)])))) (Q (some (IV.d (D.bool false), [IV.d (D.sl 4 z1 x2 e3), IV.d (D.agg [D.int IntKind.i64 i4, D.int IntKind.i64 i5, D.int IntKind.i64 i6, D.int IntKind.i64 i7, D.int IntKind.i64 i8, D.int IntKind.i64 i9, D.int IntKind.i64 i10, D.sl 2 z11 x12 e13, D.sl 1 z14 x15 e16, D.sl 2 z17 x18 e19]), IV.d (D.int IntKind.i64 i20)])))) (Q (some (IV.d (D.bool false), [IV.d (D.sl 4 z1 x2 e3), IV.d (D.agg [D.int IntKind.i64 i4, D.int IntKind.i64 i5, D.int IntKind.i64 i6, D.int IntKind.i64 i7, D.int IntKind.i64 i8, D.int IntKind.i64 i9, D.int IntKind.i64 i10, D.sl 2 z11 x12 e13, D.sl 1 z14 x15 e16, D.sl 2 z17 x18 e19]), IV.d (D.int IntKind.i64 i20)])))) (∃ w615 w616, C 9 [IV.d (D.int IntKind.i64 w466)] = some (IV.d (D.int IntKind.i64 w615), [IV.d w616]) ∧ condW (w615 == 1700) (∃ w617 w618, C 9 [IV.d (D.int IntKind.i64 w578)] = some (IV.d (D.int IntKind.i64 w617), [IV.d w618]) ∧ condW (w617 == 1700) (∃ w619 w620, C 9 [IV.d (D.int IntKind.i64 w588)] = some (IV.d (D.int IntKind.i64 w619), [IV.d w620]) ∧ condW (w619 == 1700) (Q (some (IV.d (D.bool true), [IV.d (D.sl 4 z1 x2 e3), IV.d (D.agg [D.int IntKind.i64 i4, D.int IntKind.i64 i5, D.int IntKind.i64 i6, D.int IntKind.i64 i7, D.int IntKind.i64 i8, D.int IntKind.i64 i9, D.int IntKind.i64 i10, D.sl 2 z11 x12 e13, D.sl 1 z14 x15 e16, D.sl 2 z17 x18 e19]), IV.d (D.int IntKind.i64 i20)]))) (Q (some (IV.d (D.bool false), [IV.d (D.sl 4 z1 x2 e3), IV.d (D.agg [D.int IntKind.i64 i4, D.int IntKind.i64 i5, D.int IntKind.i64 i6, D.int IntKind.i64 i7, D.int IntKind.i64 i8, D.int IntKind.i64 i9, D.int IntKind.i64 i10, D.sl 2 z11 x12 e13, D.sl 1 z14 x15 e16, D.sl 2 z17 x18 e19]), IV.d (D.int IntKind.i64 i20)])))) (Q (some (IV.d (D.bool false), [IV.d (D.sl 4 z1 x2 e3), IV.d (D.agg [D.int IntKind.i64 i4, D.int IntKind.i64 i5, D.int IntKind.i64 i6, D.int IntKind.i64 i7, D.int IntKind.i64 i8, D.int IntKind.i64 i9, D.int IntKind.i64 i10, D.sl 2 z11 x12 e13, D.sl 1 z14 x15 e16, D.sl 2 z17 x18 e19]), IV.d (D.int IntKind.i64 i20)])))) (Q (some (IV.d (D.bool false), [IV.d (D.sl 4 z1 x2 e3), IV.d (D.agg [D.int IntKind.i64 i4, D.int IntKind.i64 i5, D.int IntKind.i64 i6, D.int IntKind.i64 i7, D.int IntKind.i64 i8, D.int IntKind.i64 i9, D.int IntKind.i64 i10, D.sl 2 z11 x12 e13, D.sl 1 z14 x15 e16, D.sl 2 z17 x18 e19]), IV.d (D.int IntKind.i64 i20)]))))) False) False))) False) False) ∨ ∃ w621 w622 w623 w624 w625 w626 w627 w628 w629 w630 w631 w632 w633 w634 w635 w636, C 11 [IV.d (D.sl 4 z1 x2 e3), IV.d (D.str (w1 ++ { data := #[32, 48] }))] = some (IV.tup [IV.agg [IV.d (D.int IntKind.i64 w621), IV.d (D.int IntKind.i64 w622), IV.d (D.int IntKind.i64 w623), IV.d (D.int IntKind.i64 w624), IV.d (D.int IntKind.i64 w625), IV.d (D.int IntKind.i64 w626), IV.d (D.int IntKind.i64 w627), IV.own w628 44 2 w629, IV.own w630 42 1 w631, IV.own w632 44 2 w633], IV.d (D.int IntKind.i64 w634)], [IV.d w635, IV.d w636]) ∧ condW (decide (0 ≤ IntKind.wrap IntKind.i64 (Int.tmod (IntKind.wrap IntKind.u64 i20) (IntKind.wrap IntKind.u64 (↑(ByteArray.size w1) : Int))))) (condW (decide (IntKind.wrap IntKind.i64 (Int.tmod (IntKind.wrap IntKind.u64 i20) (IntKind.wrap IntKind.u64 (↑(ByteArray.size w1) : Int))) < (↑(ByteArray.size w1) : Int))) (condW (byteAt w1 (Int.toNat (IntKind.wrap IntKind.i64 (Int.tmod (IntKind.wrap IntKind.u64 i20) (IntKind.wrap IntKind.u64 (↑(ByteArray.size w1) : Int))))) == 32) (∃ w637 w638, C 9 [IV.d (D.int IntKind.i64 w456)] = some (IV.d (D.int IntKind.i64 w637), [IV.d w638]) ∧ condW (w637 == 1700) (∃ w639 w640, C 9 [IV.d (D.int IntKind.i64 w466)] = some (IV.d (D.int IntKind.i64 w639), [IV.d w640]) ∧ condW (w639 == 1700) (∃ w641 w642, C 9 [IV.d (D.int IntKind.i64 w578)] = some (IV.d (D.int IntKind.i64 w641), [IV.d w642]) ∧ condW (w641 == 1700) (∃ w643 w644, C 9 [IV.d (D.int IntKind.i64 w634)] = some (IV.d (D.int IntKind.i64 w643), [IV.d w644]) ∧ condW (w643 == 1700) (Q (some (IV.d (D.bool true), [IV.d (D.sl 4 z1 x2 e3), IV.d (D.agg [D.int IntKind.i64 i4, D.int IntKind.i64 i5, D.int IntKind.i64 i6, D.int IntKind.i64 i7, D.int IntKind.i64 i8, D.int IntKind.i64 i9, D.int IntKind.i64 i10, D.sl 2 z11 x12 e13, D.sl 1 z14 x15 e16, D.sl 2 z17 x18 e19]), IV.d (D.int IntKind.i64 i20)]))) (Q (some (IV.d (D.bool false), [IV.d (D.sl 4 z1 x2 e3), IV.d (D.agg [D.int IntKind.i64 i4, D.int IntKind.i64 i5, D.int IntKind.i64 i6, D.int IntKind.i64 i7, D.int IntKind.i64 i8, D.int IntKind.i64 i9, D.int IntKind.i64 i10, D.sl 2 z11 x12 e13, D.sl 1 z14 x15 e16, D.sl 2 z17 x18 e19]), IV.d (D.int IntKind.i64 i20)])))) (Q (some (IV.d (D.bool false), [IV.d (D.sl 4 z1 x2 e3), IV.d (D.agg [D.int IntKind.i64 i4, D.int IntKind.i64 i5, D.int IntKind.i64 i6, D.int IntKind.i64 i7, D.int IntKind.i64 i8, D.int IntKind.i64 i9, D.int IntKind.i64 i10, D.sl 2 z11 x12 e13, D.sl 1 z14 x15 e16, D.sl 2 z17 x18 e19]), IV.d (D.int IntKind.i64 i20)])))) (Q (some (IV.d (D.bool false), [IV.d (D.sl 4 z1 x2 e3), IV.d (D.agg [D.int IntKind.i64 i4, D.int IntKind.i64 i5, D.int IntKind.i64 i6, D.int IntKind.i64 i7, D.int IntKind.i64 i8, D.int IntKind.i64 i9, D.int IntKind.i64 i10, D.sl 2 z11 x12 e13, D.sl 1 z14 x15 e16, D.sl 2 z17 x18 e19]), IV.d (D.int IntKind.i64 i20)])))) (Q (some (IV.d (D.bool false), [IV.d (D.sl 4 z1 x2 e3), IV.d (D.agg [D.int IntKind.i64 i4, D.int IntKind.i64 i5, D.int IntKind.i64 i6, D.int IntKind.i64 i7, D.int IntKind.i64 i8, D.int IntKind.i64 i9, D.int IntKind.i64 i10, D.sl 2 z11 x12 e13, D.sl 1 z14 x15 e16, D.sl 2 z17 x18 e19]), IV.d (D.int IntKind.i64 i20)])))) (condW (IntKind.wrap IntKind.i64 (Int.tmod (IntKind.wrap IntKind.u64 i20) (IntKind.wrap IntKind.u64 (↑(ByteArray.size w1) : Int))) == 0) (∃ w645 w646, C 9 [IV.d (D.int IntKind.i64 w456)] = some (IV.d (D.int IntKind.i64 w645), [IV.d w646]) ∧ condW (w645 == 1700) (∃ w647 w648, C 9 [IV.d (D.int IntKind.i64 w466)] = some (IV.d (D.int IntKind.i64 w647), [IV.d w648]) ∧ condW (w647 == 1700) (∃ w649 w650, C 9 [IV.d (D.int IntKind.i64 w578)] = some (IV.d (D.int IntKind.i64 w649), [IV.d w650]) ∧ condW (w649 == 1700) (∃ w651 w652, C 9 [IV.d (D.int IntKind.i64 w634)] = some (IV.d (D.int IntKind.i64 w651), [IV.d w652]) ∧ condW (w651 == 1700) (Q (some (IV.d (D.bool true), [IV.d (D.sl 4 z1 x2 e3), IV.d (D.agg [D.int IntKind.i64 i4, D.int IntKind.i64 i5, D.int IntKind.i64 i6, D.int IntKind.i64 i7, D.int IntKind.i64 i8, D.int IntKind.i64 i9, D.int IntKind.i64 i10, D.sl 2 z11 x12 e13, D.sl 1 z14 x15 e16, D.sl 2 z17 x18 e19]), IV.d (D.int IntKind.i64 i20)]))) (Q (some (IV.d (D.bool false), [IV.d (D.sl 4 z1 x2 e3), IV.d (D.agg [D.int IntKind.i64 i4, D.int IntKind.i64 i5, D.int IntKind.i64 i6, D.int IntKind.i64 i7, D.int IntKind.i64 i8, D.int IntKind.i64 i9, D.int IntKind.i64 i10, D.sl 2 z11 x12 e13, D.sl 1 z14 x15 e16, D.sl 2 z17 x18 e19]), IV.d (D.int IntKind.i64 i20)])))) (Q (some (IV.d (D.bool false), [IV.d (D.sl 4 z1 x2 e3), IV.d (D.agg [D.int IntKind.i64 i4, D.int IntKind.i64 i5, D.int IntKind.i64 i6, D.int IntKind.i64 i7, D.int IntKind.i64 i8, D.int IntKind.i64 i9, D.int IntKind.i64 i10, D.sl 2 z11 x12 e13, D.sl 1 z14 x15 e16, D.sl 2 z17 x18 e19]), IV.d (D.int IntKind.i64 i20)])))) (Q (some (IV.d (D.bool false), [IV.d (D.sl 4 z1 x2 e3), IV.d (D.agg [D.int IntKind.i64 i4, D.int IntKind.i64 i5, D.int IntKind.i64 i6, D.int IntKind.i64 i7, D.int IntKind.i64 i8, D.int IntKind.i64 i9, D.int IntKind.i64 i10, D.sl 2 z11 x12 e13, D.sl 1 z14 x15 e16, D.sl 2 z17 x18 e19]), IV.d (D.int IntKind.i64 i20)])))) (Q (some (IV.d (D.bool false), [IV.d (D.sl 4 z1 x2 e3), IV.d (D.agg [D.int IntKind.i64 i4, D.int IntKind.i64 i5, D.int IntKind.i64 i6, D.int IntKind.i64 i7, D.int IntKind.i64 i8, D.int IntKind.i64 i9, D.int IntKind.i64 i10, D.sl 2 z11 x12 e13, D.sl 1 z14 x15 e16, D.sl 2 z17 x18 e19]), IV.d (D.int IntKind.i64 i20)])))) (condW (decide (0 ≤ IntKind.wrap IntKind.i64 (IntKind.wrap IntKind.i64 (Int.tmod (IntKind.wrap IntKind.u64 i20) (IntKind.wrap IntKind.u64 (↑(ByteArray.size w1) : Int))) - 1))) (condW (decide (IntKind.wrap IntKind.i64 (IntKind.wrap IntKind.i64 (Int.tmod (IntKind.wrap IntKind.u64 i20) (IntKind.wrap IntKind.u64 (↑(ByteArray.size w1) : Int))) - 1) < (↑(ByteArray.size w1) : Int))) (condW (byteAt w1 (Int.toNat (IntKind.wrap IntKind.i64 (IntKind.wrap IntKind.i64 (Int.tmod (IntKind.wrap IntKind.u64 i20) (IntKind.wrap IntKind.u64 (↑(ByteArray.size w1) : Int))) - 1))) == 32) (∃ w653 w654, C 9 [IV.d (D.int IntKind.i64 w456)] = some (IV.d (D.int IntKind.i64 w653), [IV.d w654]) ∧ condW (w653 == 1700) (∃ w655 w656, C 9 [IV.d (D.int IntKind.i64 w466)] = some (IV.d (D.int IntKind.i64 w655), [IV.d w656]) ∧ condW (w655 == 1700) (∃ w657 w658, C 9 [IV.d (D.int IntKind.i64 w578)] = some (IV.d (D.int IntKind.i64 w657), [IV.d w658]) ∧ condW (w657 == 1700) (∃ w659 w660, C 9 [IV.d (D.int IntKind.i64 w634)] = some (IV.d (D.int IntKind.i64 w659), [IV.d w660]) ∧ condW (w659 == 1700) (Q (some (IV.d (D.bool true), [IV.d (D.sl 4 z1 x2 e3), IV.d (D.agg [D.int IntKind.i64 i4, D.int IntKind.i64 i5, D.int IntKind.i64 i6, D.int IntKind.i64 i7, D.int IntKind.i64 i8, D.int IntKind.i64 i9, D.int IntKind.i64 i10, D.sl 2 z11 x12 e13, D.sl 1 z14 x15 e16, D.sl 2 z17 x18 e19]), IV.d (D.int IntKind.i64 i20)]))) (Q (some (IV.d (D.bool false), [IV.d (D.sl 4 z1 x2 e3), IV.d (D.agg [D.int IntKind.i64 i4, D.int IntKind.i64 i5, D.int IntKind.i64 i6, D.int IntKind.i64 i7, D.int IntKind.i64 i8, D.int IntKind.i64 i9, D.int IntKind.i64 i10, D.sl 2 z11 x12 e13, D.sl 1 z14 x15 e16, D.sl 2 z17 x18 e19]), IV.d (D.int IntKind.i64 i20)])))) (Q (some (IV.d (D.bool false), [IV.d (D.sl 4 z1 x2 e3), IV.d (D.agg [D.int IntKind.i64 i4, D.int IntKind.i64 i5, D.int IntKind.i64 i6, D.int IntKind.i64 i7, D.int IntKind.i64 i8, D.int IntKind.i64 i9, D.int IntKind.i64 i10, D.sl 2 z11 x12 e13, D.sl 1 z14 x15 e16, D.sl 2 z17 x18 e19]), IV.d (D.int IntKind.i64 i20)])))) (Q (some (IV.d (D.bool false), [IV.d (D.sl 4 z1 x2 e3), IV.d (D.agg [D.int IntKind.i64 i4, D.int IntKind.i64 i5, D.int IntKind.i64 i6, D.int IntKind.i64 i7, D.int IntKind.i64 i8, D.int IntKind.i64 i9, D.int IntKind.i64 i10, D.sl 2 z11 x12 e13, D.sl 1 z14 x15 e16, D.sl 2 z17 x18 e19]), IV.d (D.int IntKind.i64 i20)])))) (Q (some (IV.d (D.bool false), [IV.d (D.sl 4 z1 x2 e3), IV.d (D.agg [D.int IntKind.i64 i4, D.int IntKind.i64 i5, D.int IntKind.i64 i6, D.int IntKind.i64 i7, D.int IntKind.i64 i8, D.int IntKind.i64 i9, D.int IntKind.i64 i10, D.sl 2 z11 x12 e13, D.sl 1 z14 x15 e16, D.sl 2 z17 x18 e19]), IV.d (D.int IntKind.i64 i20)])))) (∃ w661 w662, C 9 [IV.d (D.int IntKind.i64 w466)] = some (IV.d (D.int IntKind.i64 w661), [IV.d w662]) ∧ condW (w661 == 1700) (∃ w663 w664, C 9 [IV.d (D.int IntKind.i64 w578)] = some (IV.d (D.int IntKind.i64 w663), [IV.d w664]) ∧ condW (w663 == 1700) (∃ w665 w666, C 9 [IV.d (D.int IntKind.i64 w634)] = some (IV.d (D.int IntKind.i64 w665), [IV.d w666]) ∧ condW (w665 == 1700) (Q (some (IV.d (D.bool true), [IV.d (D.sl 4 z1 x2 e3), IV.d (D.agg [D.int IntKind.i64 i4, D.int IntKind.i64 i5, D.int IntKind.i64 i6, D.int IntKind.i64 i7, D.int IntKind.i64 i8, D.int IntKind.i64 i9, D.int IntKind.i64 i10, D.sl 2 z11 x12 e13, D.sl 1 z14 x15 e16, D.sl 2 z17 x18 e19]), IV.d (D.int IntKind.i64 i20)]))) (Q (some (IV.d (D.bool false), [IV.d (D.sl 4 z1 x2 e3), IV.d (D.agg [D.int IntKind.i64 i4, D.int IntKind.i64 i5, D.int IntKind.i64 i6, D.int IntKind.i64 i7, D.int IntKind.i64 i8, D.int IntKind.i64 i9, D.int IntKind.i64 i10, D.sl 2 z11 x12 e13, D.sl 1 z14 x15 e16, D.sl 2 z17 x18 e19]), IV.d (D.int IntKind.i64 i20)])))) (Q (some (IV.d (D.bool false), [IV.d (D.sl 4 z1 x2 e3), IV.d (D.agg [D.int IntKind.i64 i4, D.int IntKind.i64 i5, D.int IntKind.i64 i6, D.int IntKind.i64 i7, D.int IntKind.i64 i8, D.int IntKind.i64 i9, D.int IntKind.i64 i10, D.sl 2 z11 x12 e13, D.sl 1 z14 x15 e16, D.sl 2 z17 x18 e19]), IV.d (D.int IntKind.i64 i20)])))) (Q (some (IV.d (D.bool false), [IV.d (D.sl 4 z1 x2 e3), IV.d (D.agg [D.int IntKind.i64 i4, D.int IntKind.i64 i5, D.int IntKind.i64 i6, D.int IntKind.i64 i7, D.int IntKind.i64 i8, D.int IntKind.i64 i9, D.int IntKind.i64 i10, D.sl 2 z11 x12 e13, D.sl 1 z14 x15 e16, D.sl 2 z17 x18 e19]), IV.d (D.int IntKind.i64 i20)]))))) False) False))) False) False) False) False) ∨ ∃ w667 w668 w669 w670 w671 w672 w673 w674 w675 w676 w677 w678 w679 w680 w681 w682, C 11 [IV.d (D.sl 4 z1 x2 e3), IV.d (D.str ({ data := #[32] } ++ w1))] = some (IV.tup [IV.agg [IV.d (D.int IntKind.i64 w667), IV.d (D.int IntKind.i64 w668), IV.d (D.int IntKind.i64 w669), IV.d (D.int IntKind.i64 w670), IV.d (D.int IntKind.i64 w671), IV.d (D.int IntKind.i64 w672), IV.d (D.int IntKind.i64 w673), IV.own w674 44 2 w675, IV.own w676 42 1 w677, IV.own w678 44 2 w679], IV.d (D.int IntKind.i64 w680)], [IV.d w681, IV.d w682]) ∧ condW (decide (ByteArray.size { data := #[48] } + ByteArray.size w1 ≤ 9223372036854775807)) ((∃ w683 w684 w685 w686 w687 w688 w689 w690 w691 w692, C 11 [IV.d (D.sl 4 z1 x2 e3), IV.d (D.str ({ data := #[48] } ++ w1))] = some (IV.tup [IV.d (D.agg [D.int IntKind.i64 w683, D.int IntKind.i64 w684, D.int IntKind.i64 w685, D.int IntKind.i64 w686, D.int IntKind.i64 w687, D.int IntKind.i64 w688, D.int IntKind.i64 w689, D.sl 2 true [] [], D.sl 1 true [] [], D.sl 2 true [] []]), IV.d (D.int IntKind.i64 w690)], [IV.d w691, IV.d w692]) ∧ condW (decide (ByteArray.size w1 + ByteArray.size { data := #[32, 48] } ≤ 9223372036854775807)) ((∃ w693 w694 w695 w696 w697 w698 w699 w700 w701 w702, C 11 [IV.d (D.sl 4 z1 x2 e3), IV.d (D.str (w1 ++ { data := #[32, 48] }))] = some (IV.tup [IV.d (D.agg [D.int IntKind.i64 w693, D.int IntKind.i64 w694, D.int IntKind.i64 w695, D.int IntKind.i64 w696, D.int IntKind.i64 w697, D.int IntKind.i64 w698, D.int IntKind.i64 w699, D.sl 2 true [] [], D.sl 1 true [] [], D.sl 2 true [] []]), IV.d (D.int IntKind.i64 w700)], [IV.d w701, IV.d w702]) ∧ condW (decide (0 ≤ IntKind.wrap IntKind.i64 (Int.tmod (IntKind.wrap IntKind.u64 i20) (IntKind.wrap IntKind.u64 (↑(ByteArray.size w1) : Int))))) (condW (decide (IntKind.wrap IntKind.i64 (Int.tmod (IntKind.wrap IntKind.u64 i20) (IntKind.wrap IntKind.u64 (↑(ByteArray.size w1) : Int))) < (↑(ByteArray.size w1) : Int))) (condW (byteAt w1 (Int.toNat (IntKind.wrap IntKind.i64 (Int.tmod (IntKind.wrap IntKind.u64 i20) (IntKind.wrap IntKind.u64 (↑(ByteArray.size w1) : Int))))) == 32) (∃ w703 w704, C 9 [IV.d (D.int IntKind.i64 w456)] = some (IV.d (D.int IntKind.i64 w703), [IV.d w704]) ∧ condW (w703 == 1700) (∃ w705 w706, C 9 [IV.d (D.int IntKind.i64 w680)] = some (IV.d (D.int IntKind.i64 w705), [IV.d w706]) ∧ condW (w705 == 1700) (∃ w707 w708, C 9 [IV.d (D.int IntKind.i64 w690)] = some (IV.d (D.int IntKind.i64 w707), [IV.d w708]) ∧ condW (w707 == 1700) (∃ w709 w710, C 9 [IV.d (D.int IntKind.i64 w700)] = some (IV.d (D.int IntKind.i64 w709), [IV.d w710]) ∧ condW (w709 == 1700) (Q (some (IV.d (D.bool true), [IV.d (D.sl 4 z1 x2 e3), IV.d (D.agg [D.int IntKind.i64 i4, D.int IntKind.i64 i5, D.int IntKind.i64 i6, D.int IntKind.i64 i7, D.int IntKind.i64 i8, D.int IntKind.i64 i9, D.int IntKind.i64 i10, D.sl 2 z11 x12 e13, D.sl 1 z14 x15 e16, D.sl 2 z17 x18 e19]), IV.d (D.int IntKind.i64 i20)]))) (Q (some (IV.d (D.bool false), [IV.d (D.sl 4 z1 x2 e3), IV.d (D.agg [D.int IntKind.i64 i4, D.int IntKind.i64 i5, D.int IntKind.i64 i6, D.int IntKind.i64 i7, D.int IntKind.i64 i8, D.int IntKind.i64 i9, D.int IntKind.i64 i10, D.sl 2 z11 x12 e13, D.sl 1 z14 x15 e16, D.sl 2 z17 x18 e19]), IV.d (D.int IntKind.i64 i20)])))) (Q (some (IV.d (D.bool false), [IV.d (D.sl 4 z1 x2 e3), IV.d (D.agg [D.int IntKind.i64 i4, D.int IntKind.i64 i5, D.int IntKind.i64 i6, D.int IntKind.i64 i7, D.int IntKind.i64 i8, D.int IntKind.i64 i9, D.int IntKind.i64 i10, D.sl 2 z11 x12 e13, D.sl 1 z14 x15 e16, D.sl 2 z17 x18 e19]), IV.d (D.int IntKind.i64 i20)])))) (Q (some (IV.d (D.bool false), [IV.d (D.sl 4 z1 x2 e3), IV.d (D.agg [D.int IntKind.i64 i4, D.int IntKind.i64 i5, D.int IntKind.i64 i6, D.int IntKind.i64 i7, D.int IntKind.i64 i8, D.int IntKind.i64 i9, D.int IntKind.i64 i10, D.sl 2 z11 x12 e13, D.sl 1 z14 x15 e16, D.sl 2 z17 x18 e19]), IV.d (D.int IntKind.i64 i20)])))) (Q (some (IV.d (D.bool false), [IV.d (D.sl 4 z1 x2 e3), IV.d (D.agg [D.int IntKind.i64 i4, D.int IntKind.i64 i5, D.int IntKind.i64 i6, D.int IntKind.i64 i7, D.int IntKind.i64 i8, D.int IntKind.i64 i9, D.int IntKind.i64 i10, D.sl 2 z11 x12 e13, D.sl 1 z14 x15 e16, D.sl 2 z17 x18 e19]), IV.d (D.int IntKind.i64 i20)])))) (condW (IntKind.wrap IntKind.i64 (Int.tmod (IntKind.wrap IntKind.u64 i20) (IntKind.wrap IntKind.u64 (↑(ByteArray.size w1) : Int))) == 0) (∃ w711 w712, C 9 [IV.d (D.int IntKind.i64 w456)] = some (IV.d (D.int IntKind.i64 w711), [IV.d w712]) ∧ condW (w711 == 1700) (∃ w713 w714, C 9 [IV.d (D.int IntKind.i64 w680)] = some (IV.d (D.int IntKind.i64 w713), [IV.d w714]) ∧ condW (w713 == 1700) (∃ w715 w716, C 9 [IV.d (D.int IntKind.i64 w690)] = some (IV.d (D.int IntKind.i64 w715), [IV.d w716]) ∧ condW (w715 == 1700) (∃ w717 w718, C 9 [IV.d (D.int IntKind.i64 w700)] = some (IV.d (D.int IntKind.i64 w717), [IV.d w718]) ∧ condW (w717 == 1700) (Q (some (IV.d (D.bool true), [IV.d (D.sl 4 z1 x2 e3), IV.d (D.agg [D.int IntKind.i64 i4, D.int IntKind.i64 i5, D.int IntKind.i64 i6, D.int IntKind.i64 i7, D.int IntKind.i64 i8, D.int IntKind.i64 i9, D.int IntKind.i64 i10, D.sl 2 z11 x12 e13, D.sl 1 z14 x15 e16, D.sl 2 z17 x18 e19]), IV.d (D.int IntKind.i64 i20)]))) (Q (some (IV.d (D.bool false), [IV.d (D.sl 4 z1 x2 e3), IV.d (D.agg [D.int IntKind.i64 i4, D.int IntKind.i64 i5, D.int IntKind.i64 i6, D.int IntKind.i64 i7, D.int IntKind.i64 i8, D.int IntKind.i64 i9, D.int IntKind.i64 i10, D.sl 2 z11 x12 e13, D.sl 1 z14 x15 e16, D.sl 2 z17 x18 e19]), IV.d (D.int IntKind.i64 i20)])))) (Q (some (IV.d (D.bool false), [IV.d (D.sl 4 z1 x2 e3), IV.d (D.agg [D.int IntKind.i64 i4, D.int IntKind.i64 i5, D.int IntKind.i64 i6, D.int IntKind.i64 i7, D.int IntKind.i64 i8, D.int IntKind.i64 i9, D.int IntKind.i64 i10, D.sl 2 z11 x12 e13, D.sl 1 z14 x15 e16, D.sl 2 z17 x18 e19]), IV.d (D.int IntKind.i64 i20)])))) (Q (some (IV.d (D.bool false), [IV.d (D.sl 4 z1 x2 e3), IV.d (D.agg [D.int IntKind.i64 i4, D.int IntKind.i64 i5, D.int IntKind.i64 i6, D.int IntKind.i64 i7, D.int IntKind.i64 i8, D.int IntKind.i64 i9, D.int IntKind.i64 i10, D.sl 2 z11 x12 e13, D.sl 1 z14 x15 e16, D.sl 2 z17 x18 e19]), IV.d (D.int IntKind.i64 i20)])))) (Q (some (IV.d (D.bool false), [IV.d (D.sl 4 z1 x2 e3), IV.d (D.agg [D.int IntKind.i64 i4, D.int IntKind.i64 i5, D.int IntKind.i64 i6, D.int IntKind.i64 i7, D.int IntKind.i64 i8, D.int IntKind.i64 i9, D.int IntKind.i64 i10, D.sl 2 z11 x12 e13, D.sl 1 z14 x15 e16, D.sl 2 z17 x18 e19]), IV.d (D.int IntKind.i64 i20)])))) (condW (decide (0 ≤ IntKind.wrap IntKind.i64 (IntKind.wrap IntKind.i64 (Int.tmod (IntKind.wrap IntKind.u64 i20) (IntKind.wrap IntKind.u64 (↑(ByteArray.size w1) : Int))) - 1))) (condW (decide (IntKind.wrap IntKind.i64 (IntKind.wrap IntKind.i64 (Int.tmod (IntKind.wrap IntKind.u64 i20) (IntKind.wrap IntKind.u64 (↑(ByteArray.size w1) : Int))) - 1) < (↑(ByteArray.size w1) : Int))) (condW (byteAt w1 (Int.toNat (IntKind.wrap IntKind.i64 (IntKind.wrap IntKind.i64 (Int.tmod (IntKind.wrap IntKind.u64 i20) (IntKind.wrap IntKind.u64 (↑(ByteArray.size w1) : Int))) - 1))) == 32) (∃ w719 w720, C 9 [IV.d (D.int IntKind.i64 w456)] = some (IV.d (D.int IntKind.i64 w719), [IV.d w720]) ∧ condW (w719 == 1700) (∃ w721 w722, C 9 [IV.d (D.int IntKind.i64 w680)] = some (IV.d (D.int IntKind.i64 w721), [IV.d w722]) ∧ condW (w721 == 1700) (∃ w723 w724, C 9 [IV.d (D.int IntKind.i64 w690)] = some (IV.d (D.int IntKind.i64 w723), [IV.d w724]) ∧ condW (w723 == 1700) (∃ w725 w726, C 9 [IV.d (D.int IntKind.i64 w700)] = some (IV.d (D.int IntKind.i64 w725), [IV.d w726]) ∧ condW (w725 == 1700) (Q (some (IV.d (D.bool true), [IV.d (D.sl 4 z1 x2 e3), IV.d (D.agg [D.int IntKind.i64 i4, D.int IntKind.i64 i5, D.int IntKind.i64 i6, D.int IntKind.i64 i7, D.int IntKind.i64 i8, D.int IntKind.i64 i9, D.int IntKind.i64 i10, D.sl 2 z11 x12 e13, D.sl 1 z14 x15 e16, D.sl 2 z17 x18 e19]), IV.d (D.int IntKind.i64 i20)]))) (Q (some (IV.d (D.bool false), [IV.d (D.sl 4 z1 x2 e3), IV.d (D.agg [D.int IntKind.i64 i4, D.int IntKind.i64 i5, D.int IntKind.i64 i6, D.int IntKind.i64 i7, D.int IntKind.i64 i8, D.int IntKind.i64 i9, D.int IntKind.i64 i10, D.sl 2 z11 x12 e13, D.sl 1 z14 x15 e16, D.sl 2 z17 x18 e19]), IV.d (D.int IntKind.i64 i20)])))) (Q (some (IV.d (D.bool false), [IV.d (D.sl 4 z1 x2 e3), IV.d (D.agg [D.int IntKind.i64 i4, D.int IntKind.i64 i5, D.int IntKind.i64 i6, D.int IntKind.i64 i7, D.int IntKind.i64 i8, D.int IntKind.i64 i9, D.int IntKind.i64 i10, D.sl 2 z11 x12 e13, D.sl 1 z14 x15 e16, D.sl 2 z17 x18 e19]), IV.d (D.int IntKind.i64 i20)])))) (Q (some (IV.d (D.bool false), [IV.d (D.sl 4 z1 x2 e3), IV.d (D.agg [D.int IntKind.i64 i4, D.int IntKind.i64 i5, D.int IntKind.i64 i6, D.int IntKind.i64 i7, D.int IntKind.i64 i8, D.int IntKind.i64 i9, D.int IntKind.i64 i10, D.sl 2 z11 x12 e13, D.sl 1 z14 x15 e16, D.sl 2 z17 x18 e19]), IV.d (D.int IntKind.i64 i20)])))) (Q (some (IV.d (D.bool false), [IV.d (D.sl 4 z1 x2 e3), IV.d (D.agg [D.int IntKind.i64 i4, D.int IntKind.i64 i5, D.int IntKind.i64 i6, D.int IntKind.i64 i7, D.int IntKind.i64 i8, D.int IntKind.i64 i9, D.int IntKind.i64 i10, D.sl 2 z11 x12 e13, D.sl 1 z14 x15 e16, D.sl 2 z17 x18 e19]), IV.d (D.int IntKind.i64 i20)])))) (∃ w727 w728, C 9 [IV.d (D.int IntKind.i64 w680)] = some (IV.d (D.int IntKind.i64 w727), [IV.d w728]) ∧ condW (w727 == 1700) (∃ w729 w730, C 9 [IV.d (D.int IntKind.i64 w690)] = some (IV.d (D.int IntKind.i64 w729), [IV.d w730]) ∧ condW (w729 == 1700) (∃ w731 w732, C 9 [IV.d (D.int IntKind.i64 w700)] = some (IV.d (D.int IntKind.i64 w731), [IV.d w732]) ∧ condW (w731 == 1700) (Q (some (IV.d (D.bool true), [IV.d (D.sl 4 z1 x2 e3), IV.d (D.agg [D.int IntKind.i64 i4, D.int IntKind.i64 i5, D.int IntKind.i64 i6, D.int IntKind.i64 i7, D.int IntKind.i64 i8, D.int IntKind.i64 i9, D.int IntKind.i64 i10, D.sl 2 z11 x12 e13, D.sl 1 z14 x15 e16, D.sl 2 z17 x18 e19]), IV.d (D.int IntKind.i64 i20)]))) (Q (some (IV.d (D.bool false), [IV.d (D.sl 4 z1 x2 e3), IV.d (D.agg [D.int IntKind.i64 i4, D.int IntKind.i64 i5, D.int IntKind.i64 i6, D.int IntKind.i64 i7, D.int IntKind.i64 i8, D.int IntKind.i64 i9, D.int IntKind.i64 i10, D.sl 2 z11 x12 e13, D.sl 1 z14 x15 e16, D.sl 2 z17 x18 e19]), IV.d (D.int IntKind.i64 i20)])))) (Q (some (IV.d (D.bool false), [IV.d (D.sl 4 z1 x2 e3), IV.d (D.agg [D.int IntKind.i64 i4, D.int IntKind.i64 i5, D.int IntKind.i64 i6, D.int IntKind.i64 i7, D.int IntKind.i64 i8, D.int IntKind.i64 i9, D.int IntKind.i64 i10, D.sl 2 z11 x12 e13, D.sl 1 z14 x15 e16, D.sl 2 z17 x18 e19]), IV.d (D.int IntKind.i64 i20)])))) (Q (some (IV.d (D.bool false), [IV.d (D.sl 4 z1 x2 e3), IV.d (D.agg [D.int IntKind.i64 i4, D.int IntKind.i64 i5, D.int IntKind.i64 i6, D.int IntKind.i64 i7, D.int IntKind.i64 i8, D.int IntKind.i64 i9, D.int IntKind.i64 i10, D.sl 2 z11 x12 e13, D.sl 1 z14 x15 e16, D.sl 2 z17 x18 e19]), IV.d (D.int IntKind.i64 i20)]))))) False) False))) False) False) ∨ ∃ w733 w734 w735 w736 w737 w738 w739 w740 w741 w742 w743 w744 w745 w746 w747 w748, C 11 [IV.d (D.sl 4 z1 x2 e3), IV.d (D.str (w1 ++ { data := #[32, 48] }))] = some (IV.tup [IV.agg [IV.d (D.int IntKind.i64 w733), IV.d (D.int IntKind.i64 w734), IV.d (D.int IntKind.i64 w735), IV.d (D.int IntKind.i64 w736), IV.d (D.int IntKind.i64 w737), IV.d (D.int IntKind.i64 w738), IV.d (D.int IntKind.i64 w739), IV.own w740 44 2 w741, IV.own w742 42 1 w743, IV.own w744 44 2 w745], IV.d (D.int IntKind.i64 w746)], [IV.d w747, IV.d w748]) ∧ condW (decide (0 ≤ IntKind.wrap IntKind.i64 (Int.tmod (IntKind.wrap IntKind.u64 i20) (IntKind.wrap IntKind.u64 (↑(ByteArray.size w1) : Int))))) (condW (decide (IntKind.wrap IntKind.i64 (Int.tmod (IntKind.wrap IntKind.u64 i20) (IntKind.wrap IntKind.u64 (↑(ByteArray.size w1) : Int))) < (↑(ByteArray.size w1) : Int))) (condW (byteAt w1 (Int.toNat (IntKind.wrap IntKind.i64 (Int.tmod (IntKind.wrap IntKind.u64 i20) (IntKind.wrap IntKind.u64 (↑(ByteArray.size w1) : Int))))) == 32) (∃ w749 w750, C 9 [IV.d (D.int IntKind.i64 w456)] = some (IV.d (D.int IntKind.i64 w749), [IV.d w750]) ∧ condW (w749 == 1700) (∃ w751 w752, C 9 [IV.d (D.int IntKind.i64 w680)] = some (IV.d (D.int IntKind.i64 w751), [IV.d w752]) ∧ condW (w751 == 1700) (∃ w753 w754, C 9 [IV.d (D.int IntKind.i64 w690)] = some (IV.d (D.int IntKind.i64 w753), [IV.d w754]) ∧ condW (w753 == 1700) (∃ w755 w756, C 9 [IV.d (D.int IntKind.i64 w746)] = some (IV.d (D.int IntKind.i64 w755), [IV.d w756]) ∧ condW (w755 == 1700) (Q (some (IV.d (D.bool true), [IV.d (D.sl 4 z1 x2 e3), IV.d (D.agg [D.int IntKind.i64 i4, D.int IntKind.i64 i5, D.int IntKind.i64 i6, D.int IntKind.i64 i7, D.int IntKind.i64 i8, D.int IntKind.i64 i9, D.int IntKind.i64 i10, D.sl 2 z11 x12 e13, D.sl 1 z14 x15 e16, D.sl 2 z17 x18 e19]), IV.d (D.int IntKind.i64 i20)]))) (Q (some (IV.d (D.bool false), [IV.d (D.sl 4 z1 x2 e3), IV.d (D.agg [D.int IntKind.i64 i4, D.int IntKind.i64 i5, D.int IntKind.i64 i6, D.int IntKind.i64 i7, D.int IntKind.i64 i8, D.int IntKind.i64 i9, D.int IntKind.i64 i10, D.sl 2 z11 x12 e13, D.sl 1 z14 x15 e16, D.sl 2 z17 x18 e19]), IV.d (D.int IntKind.i64 i20)])))) (Q (some (IV.d (D.bool false), [IV.d (D.sl 4 z1 x2 e3), IV.d (D.agg [D.int IntKind.i64 i4, D.int IntKind.i64 i5, D.int IntKind.i64 i6, D.int IntKind.i64 i7, D.int IntKind.i64 i8, D.int IntKind.i64 i9, D.int IntKind.i64 i10, D.sl 2 z11 x12 e13, D.sl 1 z14 x15 e16, D.sl 2 z17 x18 e19]), IV.d (D.int IntKind.i64 i20)])))) (Q (some (IV.d (D.bool false), [IV.d (D.sl 4 z1 x2 e3), IV.d (D.agg [D.int IntKind.i64 i4, D.int IntKind.i64 i5, D.int IntKind.i64 i6, D.int IntKind.i64 i7, D.int IntKind.i64 i8, D.int IntKind.i64 i9, D.int IntKind.i64 i10, D.sl 2 z11 x12 e13, D.sl 1 z14 x15 e16, D.sl 2 z17 x18 e19]), IV.d (D.int IntKind.i64 i20)])))) (Q (some (IV.d (D.bool false), [IV.d (D.sl 4 z1 x2 e3), IV.d (D.agg [D.int IntKind.i64 i4, D.int IntKind.i64 i5, D.int IntKind.i64 i6, D.int IntKind.i64 i7, D.int IntKind.i64 i8, D.int IntKind.i64 i9, D.int IntKind.i64 i10, D.sl 2 z11 x12 e13, D.sl 1 z14 x15 e16, D.sl 2 z17 x18 e19]), IV.d (D.int IntKind.i64 i20)])))) (condW (IntKind.wrap IntKind.i64 (Int.tmod (IntKind.wrap IntKind.u64 i20) (IntKind.wrap IntKind.u64 (↑(ByteArray.size w1) : Int))) == 0) (∃ w757 w758, C 9 [IV.d (D.int IntKind.i64 w456)] = some (IV.d (D.int IntKind.i64 w757), [IV.d w758]) ∧ condW (w757 == 1700) (∃ w759 w760, C 9 [IV.d (D.int IntKind.i64 w680)] = some (IV.d (D.int IntKind.i64 w759), [IV.d w760]) ∧ condW (w759 == 1700) (∃ w761 w762, C 9 [IV.d (D.int IntKind.i64 w690)] = some (IV.d (D.int IntKind.i64 w761), [IV.d w762]) ∧ condW (w761 == 1700) (∃ w763 w764, C 9 [IV.d (D.int IntKind.i64 w746)] = some (IV.d (D.int IntKind.i64 w763), [IV.d w764]) ∧ condW (w763 == 1700) (Q (some (IV.d (D.bool true), [IV.d (D.sl 4 z1 x2 e3), IV.d (D.agg [D.int IntKind.i64 i4, D.int IntKind.i64 i5, D.int IntKind.i64 i6, D.int IntKind.i64 i7, D.int IntKind.i64 i8, D.int IntKind.i64 i9, D.int IntKind.i64 i10, D.sl 2 z11 x12 e13, D.sl 1 z14 x15 e16, D.sl 2 z17 x18 e19]), IV.d (D.int IntKind.i64 i20)]))) (Q (some (IV.d (D.bool false), [IV.d (D.sl 4 z1 x2 e3), IV.d (D.agg [D.int IntKind.i64 i4, D.int IntKind.i64 i5, D.int IntKind.i64 i6, D.int IntKind.i64 i7, D.int IntKind.i64 i8, D.int IntKind.i64 i9, D.int IntKind.i64 i10, D.sl 2 z11 x12 e13, D.sl 1 z14 x15 e16, D.sl 2 z17 x18 e19]), IV.d (D.int IntKind.i64 i20)])))) (Q (some (IV.d (D.bool false), [IV.d (D.sl 4 z1 x2 e3), IV.d (D.agg [D.int IntKind.i64 i4, D.int IntKind.i64 i5, D.int IntKind.i64 i6, D.int IntKind.i64 i7, D.int IntKind.i64 i8, D.int IntKind.i64 i9, D.int IntKind.i64 i10, D.sl 2 z11 x12 e13, D.sl 1 z14 x15 e16, D.sl 2 z17 x18 e19]), IV.d (D.int IntKind.i64 i20)])))) (Q (some (IV.d (D.bool false), [IV.d (D.sl 4 z1 x2 e3), IV.d (D.agg [D.int IntKind.i64 i4, D.int IntKind.i64 i5, D.int IntKind.i64 i6, D.int IntKind.i64 i7, D.int IntKind.i64 i8, D.int IntKind.i64 i9, D.int IntKind.i64 i10, D.sl 2 z11 x12 e13, D.sl 1 z14 x15 e16, D.sl 2 z17 x18 e19]), IV.d (D.int IntKind.i64 i20)])))) (Q (some (IV.d (D.bool false), [IV.d (D.sl 4 z1 x2 e3), IV.d (D.agg [D.int IntKind.i64 i4, D.int IntKind.i64 i5, D.int IntKind.i64 i6, D.int IntKind.i64 i7, D.int IntKind.i64 i8, D.int IntKind.i64 i9, D.int IntKind.i64 i10, D.sl 2 z11 x12 e13, D.sl 1 z14 x15 e16, D.sl 2 z17 x18 e19]), IV.d (D.int IntKind.i64 i20)])))) (condW (decide (0 ≤ IntKind.wrap IntKind.i64 (IntKind.wrap IntKind.i64 (Int.tmod (IntKind.wrap IntKind.u64 i20) (IntKind.wrap IntKind.u64 (↑(ByteArray.size w1) : Int))) - 1))) (condW (decide (IntKind.wrap IntKind.i64 (IntKind.wrap IntKind.i64 (Int.tmod (IntKind.wrap IntKind.u64 i20) (IntKind.wrap IntKind.u64 (↑(ByteArray.size w1) : Int))) - 1) < (↑(ByteArray.size w1) : Int))) (condW (byteAt w1 (Int.toNat (IntKind.wrap IntKind.i64 (IntKind.wrap IntKind.i64 (Int.tmod (IntKind.wrap IntKind.u64 i20) (IntKind.wrap IntKind.u64 (↑(ByteArray.size w1) : Int))) - 1))) == 32) (∃ w765 w766, C 9 [IV.d (D.int IntKind.i64 w456)] = some (IV.d (D.int IntKind.i64 w765), [IV.d w766]) ∧ condW (w765 == 1700) (∃ w767 w768, C 9 [IV.d (D.int IntKind.i64 w680)] = some (IV.d (D.int IntKind.i64 w767), [IV.d w768]) ∧ condW (w767 == 1700) (∃ w769 w770, C 9 [IV.d (D.int IntKind.i64 w690)] = some (IV.d (D.int IntKind.i64 w769), [IV.d w770]) ∧ condW (w769 == 1700) (∃ w771 w772, C 9 [IV.d (D.int IntKind.i64 w746)] = some (IV.d (D.int IntKind.i64 w771), [IV.d w772]) ∧ condW (w771 == 1700) (Q (some (IV.d (D.bool true), [IV.d (D.sl 4 z1 x2 e3), IV.d (D.agg [D.int IntKind.i64 i4, D.int IntKind.i64 i5, D.int IntKind.i64 i6, D.int IntKind.i64 i7, D.int IntKind.i64 i8, D.int IntKind.i64 i9, D.int IntKind.i64 i10, D.sl 2 z11 x12 e13, D.sl 1 z14 x15 e16, D.sl 2 z17 x18 e19]), IV.d (D.int IntKind.i64 i20)]))) (Q (some (IV.d (D.bool false), [IV.d (D.sl 4 z1 x2 e3), IV.d (D.agg [D.int IntKind.i64 i4, D.int IntKind.i64 i5, D.int IntKind.i64 i6, D.int IntKind.i64 i7, D.int IntKind.i64 i8, D.int IntKind.i64 i9, D.int IntKind.i64 i10, D.sl 2 z11 x12 e13, D.sl 1 z14 x15 e16, D.sl 2 z17 x18 e19]), IV.d (D.int IntKind.i64 i20)])))) (Q (some (IV.d (D.bool false), [IV.d (D.sl 4 z1 x2 e3), IV.d (D.agg [D.int IntKind.i64 i4, D.int IntKind.i64 i5, D.int IntKind.i64 i6, D.int IntKind.i64 i7, D.int IntKind.i64 i8, D.int IntKind.i64 i9, D.int IntKind.i64 i10, D.sl 2 z11 x12 e13, D.sl 1 z14 x15 e16, D.sl 2 z17 x18 e19]), IV.d (D.int IntKind.i64 i20)])))) (Q (some (IV.d (D.bool false), [IV.d (D.sl 4 z1 x2 e3), IV.d (D.agg [D.int IntKind.i64 i4, D.int IntKind.i64 i5, D.int IntKind.i64 i6, D.int IntKind.i64 i7, D.int IntKind.i64 i8, D.int IntKind.i64 i9, D.int IntKind.i64 i10, D.sl 2 z11 x12 e13, D.sl 1 z14 x15 e16, D.sl 2 z17 x18 e19]), IV.d (D.int IntKind.i64 i20)])))) (Q (some (IV.d (D.bool false), [IV.d (D.sl 4 z1 x2 e3), IV.d (D.agg [D.int IntKind.i64 i4, D.int IntKind.i64 i5, D.int IntKind.i64 i6, D.int IntKind.i64 i7, D.int IntKind.i64 i8, D.int IntKind.i64 i9, D.int IntKind.i64 i10, D.sl 2 z11 x12 e13, D.sl 1 z14 x15 e16, D.sl 2 z17 x18 e19]), IV.d (D.int IntKind.i64 i20)])))) (∃ w773 w774, C 9 [IV.d (D.int IntKind.i64 w680)] = some (IV.d (D.int IntKind.i64 w773), [IV.d w774]) ∧ condW (w773 == 1700) (∃ w775 w776, C 9 [IV.d (D.int IntKind.i64 w690)] = some (IV.d (D.int IntKind.i64 w775), [IV.d w776]) ∧ condW (w775 == 1700) (∃ w777 w778, C 9 [IV.d (D.int IntKind.i64 w746)] = some (IV.d (D.int IntKind.i64 w777), [IV.d w778]) ∧ condW (w777 == 1700) (Q (some (IV.d (D.bool true), [IV.d (D.sl 4 z1 x2 e3), IV.d (D.agg [D.int IntKind.i64 i4, D.int IntKind.i64 i5, D.int IntKind.i64 i6, D.int IntKind.i64 i7, D.int IntKind.i64 i8, D.int IntKind.i64 i9, D.int IntKind.i64 i10, D.sl 2 z11 x12 e13, D.sl 1 z14 x15 e16, D.sl 2 z17 x18 e19]), IV.d (D.int IntKind.i64 i20)]))) (Q (some (IV.d (D.bool false), [IV.d (D.sl 4 z1 x2 e3), IV.d (D.agg [D.int IntKind.i64 i4, D.int IntKind.i64 i5, D.int IntKind.i64 i6, D.int IntKind.i64 i7, D.int IntKind.i64 i8, D.int IntKind.i64 i9, D.int IntKind.i64 i10, D.sl 2 z11 x12 e13, D.sl 1 z14 x15 e16, D.sl 2 z17 x18 e19]), IV.d (D.int IntKind.i64 i20)])))) (Q (some (IV.d (D.bool false), [IV.d (D.sl 4 z1 x2 e3), IV.d (D.agg [D.int IntKind.i64 i4, D.int IntKind.i64 i5, D.int IntKind.i64 i6, D.int IntKind.i64 i7, D.int IntKind.i64 i8, D.int IntKind.i64 i9, D.int IntKind.i64 i10, D.sl 2 z11 x12 e13, D.sl 1 z14 x15 e16, D.sl 2 z17 x18 e19]), IV.d (D.int IntKind.i64 i20)])))) (Q (some (IV.d (D.bool false), [IV.d (D.sl 4 z1 x2 e3), IV.d (D.agg [D.int IntKind.i64 i4, D.int IntKind.i64 i5, D.int IntKind.i64 i6, D.int IntKind.i64 i7, D.int IntKind.i64 i8, D.int IntKind.i64 i9, D.int IntKind.i64 i10, D.sl 2 z11 x12 e13, D.sl 1 z14 x15 e16, D.sl 2 z17 x18 e19]), IV.d (D.int IntKind.i64 i20)]))))) False) False))) False) False) False) ∨ ∃ w779 w780 w781 w782 w783 w784 w785 w786 w787 w788 w789 w790 w791 w792 w793 w794, C 11 [IV.d (D.sl 4 z1 x2 e3), IV.d (D.str ({ data := #[48] } ++ w1))] = some (IV.tup [IV.agg [IV.d (D.int IntKind.i64 w779), IV.d (D.int IntKind.i64 w780), IV.d (D.int IntKind.i64 w781), IV.d (D.int IntKind.i64 w782), IV.d (D.int IntKind.i64 w783), IV.d (D.int IntKind.i64 w784), IV.d (D.int IntKind.i64 w785), IV.own w786 44 2 w787, IV.own w788 42 1 w789, IV.own w790 44 2 w791], IV.d (D.int IntKind.i64 w792)], [IV.d w793, IV.d w794]) ∧ condW (decide (ByteArray.size w1 + ByteArray.size { data := #[32, 48] } ≤ 9223372036854775807)) ((∃ w795 w796 w797 w798 w799 w800 w801 w802 w803 w804, C 11 [IV.d (D.sl 4 z1 x2 e3), IV.d (D.str (w1 ++ { data := #[32, 48] }))] = some (IV.tup [IV.d (D.agg [D.int IntKind.i64 w795, D.int IntKind.i64 w796, D.int IntKind.i64 w797, D.int IntKind.i64 w798, D.int IntKind.i64 w799, D.int IntKind.i64 w800, D.int IntKind.i64 w801, D.sl 2 true [] [], D.sl 1 true [] [], D.sl 2 true [] []]), IV.d (D.int IntKind.i64 w802)], [IV.d w803, IV.d w804]) ∧ condW (decide (0 ≤ IntKind.wrap IntKind.i64 (Int.tmod (IntKind.wrap IntKind.u64 i20) (IntKind.wrap IntKind.u64 (↑(ByteArray.size w1) : Int))))) (condW (decide (IntKind.wrap IntKind.i64 (Int.tmod (IntKind.wrap IntKind.u64 i20) (IntKind.wrap IntKind.u64 (↑(ByteArray.size w1) : Int))) < (↑(ByteArray.size w1) : Int))) (condW (byteAt w1 (Int.toNat (IntKind.wrap IntKind.i64 (Int.tmod (IntKind.wrap IntKind.u64 i20) (IntKind.wrap IntKind.u64 (↑(ByteArray.size w1) : Int))))) == 32) (∃ w805 w806, C 9 [IV.d (D.int IntKind.i64 w456)] = some (IV.d (D.int IntKind.i64 w805), [IV.d w806]) ∧ condW (w805 == 1700) (∃ w807 w808, C 9 [IV.d (D.int IntKind.i64 w680)] = some (IV.d (D.int IntKind.i64 w807), [IV.d w808]) ∧ condW (w807 == 1700) (∃ w809 w810, C 9 [IV.d (D.int IntKind.i64 w792)] = some (IV.d (D.int IntKind.i64 w809), [IV.d w810]) ∧ condW (w809 == 1700) (∃ w811 w812, C 9 [IV.d (D.int IntKind.i64 w802)] = some (IV.d (D.int IntKind.i64 w811), [IV.d w812]) ∧ condW (w811 == 1700) (Q (some (IV.d (D.bool true), [IV.d (D.sl 4 z1 x2 e3), IV.d (D.agg [D.int IntKind.i64 i4, D.int IntKind.i64 i5, D.int IntKind.i64 i6, D.int IntKind.i64 i7, D.int IntKind.i64 i8, D.int IntKind.i64 i9, D.int IntKind.i64 i10, D.sl 2 z11 x12 e13, D.sl 1 z14 x15 e16, D.sl 2 z17 x18 e19]), IV.d (D.int IntKind.i64 i20)]))) (Q (some (IV.d (D.bool false), [IV.d (D.sl 4 z1 x2 e3), IV.d (D.agg [D.int IntKind.i64 i4, D.int IntKind.i64 i5, D.int IntKind.i64 i6, D.int IntKind.i64 i7, D.int IntKind.i64 i8, D.int IntKind.i64 i9, D.int IntKind.i64 i10, D.sl 2 z11 x12 e13, D.sl 1 z14 x15 e16, D.sl 2 z17 x18 e19]), IV.d (D.int IntKind.i64 i20)])))) (Q (some (IV.d (D.bool false), [IV.d (D.sl 4 z1 x2 e3), IV.d (D.agg [D.int IntKind.i64 i4, D.int IntKind.i64 i5, D.int IntKind.i64 i6, D.int IntKind.i64 i7, D.int IntKind.i64 i8, D.int IntKind.i64 i9, D.int IntKind.i64 i10, D.sl 2 z11 x12 e13, D.sl 1 z14 x15 e16, D.sl 2 z17 x18 e19]), IV.d (D.int IntKind.i64 i20)])))) (Q (some (IV.d (D.bool false), [IV.d (D.sl 4 z1 x2 e3), IV.d (D.agg [D.int IntKind.i64 i4, D.int IntKind.i64 i5, D.int IntKind.i64 i6, D.int IntKind.i64 i7, D.int IntKind.i64 i8, D.int IntKind.i64 i9, D.int IntKind.i64 i10, D.sl 2 z11 x12 e13, D.sl 1 z14 x15 e16, D.sl 2 z17 x18 e19]), IV.d (D.int IntKind.i64 i20)])))) (Q (some (IV.d (D.bool false), [IV.d (D.sl 4 z1 x2 e3), IV.d (D.agg [D.int IntKind.i64 i4, D.int IntKind.i64 i5, D.int IntKind.i64 i6, D.int IntKind.i64 i7, D.int IntKind.i64 i8, D.int IntKind.i64 i9, D.int IntKind.i64 i10, D.sl 2 z11 x12 e13, D.sl 1 z14 x15 e16, D.sl 2 z17 x18 e19]), IV.d (D.int IntKind.i64 i20)])))) (condW (IntKind.wrap IntKind.i64 (Int.tmod (IntKind.wrap IntKind.u64 i20) (IntKind.wrap IntKind.u64 (↑(ByteArray.size w1) : Int))) == 0) (∃ w813 w814, C 9 [IV.d (D.int IntKind.i64 w456)] = some (IV.d (D.int IntKind.i64 w813), [IV.d w814]) ∧ condW (w813 == 1700) (∃ w815 w816, C 9 [IV.d (D.int IntKind.i64 w680)] = some (IV.d (D.int IntKind.i64 w815), [IV.d w816]) ∧ condW (w815 == 1700) (∃ w817 w818, C 9 [IV.d (D.int IntKind.i64 w792)] = some (IV.d (D.int IntKind.i64 w817), [IV.d w818]) ∧ condW (w817 == 1700) (∃ w819 w820, C 9 [IV.d (D.int IntKind.i64 w802)] = some (IV.d (D.int IntKind.i64 w819), [IV.d w820]) ∧ condW (w819 == 1700) (Q (some (IV.d (D.bool true), [IV.d (D.sl 4 z1 x2 e3), IV.d (D.agg [D.int IntKind.i64 i4, D.int IntKind.i64 i5, D.int IntKind.i64 i6, D.int IntKind.i64 i7, D.int IntKind.i64 i8, D.int IntKind.i64 i9, D.int IntKind.i64 i10, D.sl 2 z11 x12 e13, D.sl 1 z14 x15 e16, D.sl 2 z17 x18 e19]), IV.d (D.int IntKind.i64 i20)]))) (Q (some (IV.d (D.bool false), [IV.d (D.sl 4 z1 x2 e3), IV.d (D.agg [D.int IntKind.i64 i4, D.int IntKind.i64 i5, D.int IntKind.i64 i6, D.int IntKind.i64 i7, D.int IntKind.i64 i8, D.int IntKind.i64 i9, D.int IntKind.i64 i10, D.sl 2 z11 x12 e13, D.sl 1 z14 x15 e16, D.sl 2 z17 x18 e19]), IV.d (D.int IntKind.i64 i20)])))) (Q (some (IV.d (D.bool false), [IV.d (D.sl 4 z1 x2 e3), IV.d (D.agg [D.int IntKind.i64 i4, D.int IntKind.i64 i5, D.int IntKind.i64 i6, D.int IntKind.i64 i7, D.int IntKind.i64 i8, D.int IntKind.i64 i9, D.int IntKind.i64 i10, D.sl 2 z11 x12 e13, D.sl 1 z14 x15 e16, D.sl 2 z17 x18 e19]), IV.d (D.int IntKind.i64 i20)])))) (Q (some (IV.d (D.bool false), [IV.d (D.sl 4 z1 x2 e3), IV.d (D.agg [D.int IntKind.i64 i4, D.int IntKind.i64 i5, D.int IntKind.i64 i6, D.int IntKind.i64 i7, D.int IntKind.i64 i8, D.int IntKind.i64 i9, D.int IntKind.i64 i10, D.sl 2 z11 x12 e13, D.sl 1 z14 x15 e16, D.sl 2 z17 x18 e19]), IV.d (D.int IntKind.i64 i20)])))) (Q (some (IV.d (D.bool false), [IV.d (D.sl 4 z1 x2 e3), IV.d (D.agg [D.int IntKind.i64 i4, D.int IntKind.i64 i5, D.int IntKind.i64 i6, D.int IntKind.i64 i7, D.int IntKind.i64 i8, D.int IntKind.i64 i9, D.int IntKind.i64 i10, D.sl 2 z11 x12 e13, D.sl 1 z14 x15 e16, D.sl 2 z17 x18 e19]), IV.d (D.int IntKind.i64 i20)])))) (condW (decide (0 ≤ IntKind.wrap IntKind.i64 (IntKind.wrap IntKind.i64 (Int.tmod (IntKind.wrap IntKind.u64 i20) (IntKind.wrap IntKind.u64 (↑(ByteArray.size w1) : Int))) - 1))) (condW (decide (IntKind.wrap IntKind.i64 (IntKind.wrap IntKind.i64 (Int.tmod (IntKind.wrap IntKind.u64 i20) (IntKind.wrap IntKind.u64 (↑(ByteArray.size w1) : Int))) - 1) < (↑(ByteArray.size w1) : Int))) (condW (byteAt w1 (Int.toNat (IntKind.wrap IntKind.i64 (IntKind.wrap IntKind.i64 (Int.tmod (IntKind.wrap IntKind.u64 i20) (IntKind.wrap IntKind.u64 (↑(ByteArray.size w1) : Int))) - 1))) == 32) (∃ w821 w822, C 9 [IV.d (D.int IntKind.i64 w456)] = some (IV.d (D.int IntKind.i64 w821), [IV.d w822]) ∧ condW (w821 == 1700) (∃ w823 w824, C 9 [IV.d (D.int IntKind.i64 w680)] = some (IV.d (D.int IntKind.i64 w823), [IV.d w824]) ∧ condW (w823 == 1700) (∃ w825 w826, C 9 [IV.d (D.int IntKind.i64 w792)] = some (IV.d (D.int IntKind.i64 w825), [IV.d w826]) ∧ condW (w825 == 1700) (∃ w827 w828, C 9 [IV.d (D.int IntKind.i64 w802)] = some (IV.d (D.int IntKind.i64 w827), [IV.d w828]) ∧ condW (w827 == 1700) (Q (some (IV.d (D.bool true), [IV.d (D.sl 4 z1 x2 e3), IV.d (D.agg [D.int IntKind.i64 i4, D.int IntKind.i64 i5, D.int IntKind.i64 i6, D.int IntKind.i64 i7, D.int IntKind.i64 i8, D.int IntKind.i64 i9, D.int IntKind.i64 i10, D.sl 2 z11 x12 e13, D.sl 1 z14 x15 e16, D.sl 2 z17 x18 e19]), IV.d (D.int IntKind.i64 i20)]))) (Q (some (IV.d (D.bool false), [IV.d (D.sl 4 z1 x2 e3), IV.d (D.agg [D.int IntKind.i64 i4, D.int IntKind.i64 i5, D.int IntKind.i64 i6, D.int IntKind.i64 i7, D.int IntKind.i64 i8, D.int IntKind.i64 i9, D.int IntKind.i64 i10, D.sl 2 z11 x12 e13, D.sl 1 z14 x15 e16, D.sl 2 z17 x18 e19]), IV.d (D.int IntKind.i64 i20)])))) (Q (some (IV.d (D.bool false), [IV.d (D.sl 4 z1 x2 e3), IV.d (D.agg [D.int IntKind.i64 i4, D.int IntKind.i64 i5, D.int IntKind.i64 i6, D.int IntKind.i64 i7, D.int IntKind.i64 i8, D.int IntKind.i64 i9, D.int IntKind.i64 i10, D.sl 2 z11 x12 e13, D.sl 1 z14 x15 e16, D.sl 2 z17 x18 e19]), IV.d (D.int IntKind.i64 i20)])))) (Q (some (IV.d (D.bool false), [IV.d (D.sl 4 z1 x2 e3), IV.d (D.agg [D.int IntKind.i64 i4, D.int IntKind.i64 i5, D.int IntKind.i64 i6, D.int IntKind.i64 i7, D.int IntKind.i64 i8, D.int IntKind.i64 i9, D.int IntKind.i64 i10, D.sl 2 z11 x12 e13, D.sl 1 z14 x15 e16, D.sl 2 z17 x18 e19]), IV.d (D.int IntKind.i64 i20)])))) (Q (some (IV.d (D.bool false), [IV.d (D.sl 4 z1 x2 e3), IV.d (D.agg [D.int IntKind.i64 i4, D.int IntKind.i64 i5, D.int IntKind.i64 i6, D.int IntKind.i64 i7, D.int IntKind.i64 i8, D.int IntKind.i64 i9, D.int IntKind.i64 i10, D.sl 2 z11 x12 e13, D.sl 1 z14 x15 e16, D.sl 2 z17 x18 e19]), IV.d (D.int IntKind.i64 i20)])))) (∃ w829 w830, C 9 [IV.d (D.int IntKind.i64 w680)] = some (IV.d (D.int IntKind.i64 w829), [IV.d w830]) ∧ condW (w829 == 1700) (∃ w831 w832, C 9 [IV.d (D.int IntKind.i64 w792)] = some (IV.d (D.int IntKind.i64 w831), [IV.d w832]) ∧ condW (w831 == 1700) (∃ w833 w834, C 9 [IV.d (D.int IntKind.i64 w802)] = some (IV.d (D.int IntKind.i64 w833), [IV.d w834]) ∧ condW (w833 == 1700) (Q (some (IV.d (D.bool true), [IV.d (D.sl 4 z1 x2 e3), IV.d (D.agg [D.int IntKind.i64 i4, D.int IntKind.i64 i5, D.int IntKind.i64 i6, D.int IntKind.i64 i7, D.int IntKind.i64 i8, D.int IntKind.i64 i9, D.int IntKind.i64 i10, D.sl 2 z11 x12 e13, D.sl 1 z14 x15 e16, D.sl 2 z17 x18 e19]), IV.d (D.int IntKind.i64 i20)]))) (Q (some (IV.d (D.bool false), [IV.d (D.sl 4 z1 x2 e3), IV.d (D.agg [D.int IntKind.i64 i4, D.int IntKind.i64 i5, D.int IntKind.i64 i6, D.int IntKind.i64 i7, D.int IntKind.i64 i8, D.int IntKind.i64 i9, D.int IntKind.i64 i10, D.sl 2 z11 x12 e13, D.sl 1 z14 x15 e16, D.sl 2 z17 x18 e19]), IV.d (D.int IntKind.i64 i20)])))) (Q (some (IV.d (D.bool false), [IV.d (D.sl 4 z1 x2 e3), IV.d (D.agg [D.int IntKind.i64 i4, D.int IntKind.i64 i5, D.int IntKind.i64 i6, D.int IntKind.i64 i7, D.int IntKind.i64 i8, D.int IntKind.i64 i9, D.int IntKind.i64 i10, D.sl 2 z11 x12 e13, D.sl 1 z14 x15 e16, D.sl 2 z17 x18 e19]), IV.d (D.int IntKind.i64 i20)])))) (Q (some (IV.d (D.bool false), [IV.d (D.sl 4 z1 x2 e3), IV.d (D.agg [D.int IntKind.i64 i4, D.int IntKind.i64 i5, D.int IntKind.i64 i6, D.int IntKind.i64 i7, D.int IntKind.i64 i8, D.int IntKind.i64 i9, D.int IntKind.i64 i10, D.sl 2 z11 x12 e13, D.sl 1 z14 x15 e16, D.sl 2 z17 x18 e19]), IV.d (D.int IntKind.i64 i20)]))))) False) False))) False) False) ∨ ∃ w835 w836 w837 w838 w839 w840 w841 w842 w843 w844 w845 w846 w847 w848 w849 w850, C 11 [IV.d (D.sl 4 z1 x2 e3), IV.d (D.str (w1 ++ { data := #[32, 48] }))] = some (IV.tup [IV.agg [IV.d (D.int IntKind.i64 w835), IV.d (D.int IntKind.i64 w836), IV.d (D.int IntKind.i64 w837), IV.d (D.int IntKind.i64 w838), IV.d (D.int IntKind.i64 w839), IV.d (D.int IntKind.i64 w840), IV.d (D.int IntKind.i64 w841), IV.own w842 44 2 w843, IV.own w844 42 1 w845, IV.own w846 44 2 w847], IV.d (D.int IntKind.i64 w848)], [IV.d w849, IV.d w850]) ∧ condW (decide (0 ≤ IntKind.wrap IntKind.i64 (Int.tmod (IntKind.wrap IntKind.u64 i20) (IntKind.wrap IntKind.u64 (↑(ByteArray.size w1) : Int))))) (condW (decide (IntKind.wrap IntKind.i64 (Int.tmod (IntKind.wrap IntKind.u64 i20) (IntKind.wrap IntKind.u64 (↑(ByteArray.size w1) : Int))) < (↑(ByteArray.size w1) : Int))) (condW (byteAt w1 (Int.toNat (IntKind.wrap IntKind.i64 (Int.tmod (IntKind.wrap IntKind.u64 i20) (IntKind.wrap IntKind.u64 (↑(ByteArray.size w1) : Int))))) == 32) (∃ w851 w852, C 9 [IV.d (D.int IntKind.i64 w456)] = some (IV.d (D.int IntKind.i64 w851), [IV.d w852]) ∧ condW (w851 == 1700) (∃ w853 w854, C 9 [IV.d (D.int IntKind.i64 w680)] = some (IV.d (D.int IntKind.i64 w853), [IV.d w854]) ∧ condW (w853 == 1700) (∃ w855 w856, C 9 [IV.d (D.int IntKind.i64 w792)] = some (IV.d (D.int IntKind.i64 w855), [IV.d w856]) ∧ condW (w855 == 1700) (∃ w857 w858, C 9 [IV.d (D.int IntKind.i64 w848)] = some (IV.d (D.int IntKind.i64 w857), [IV.d w858]) ∧ condW (w857 == 1700) (Q (some (IV.d (D.bool true), [IV.d (D.sl 4 z1 x2 e3), IV.d (D.agg [D.int IntKind.i64 i4, D.int IntKind.i64 i5, D.int IntKind.i64 i6, D.int IntKind.i64 i7, D.int IntKind.i64 i8, D.int IntKind.i64 i9, D.int IntKind.i64 i10, D.sl 2 z11 x12 e13, D.sl 1 z14 x15 e16, D.sl 2 z17 x18 e19]), IV.d (D.int IntKind.i64 i20)]))) (Q (some (IV.d (D.bool false), [IV.d (D.sl 4 z1 x2 e3), IV.d (D.agg [D.int IntKind.i64 i4, D.int IntKind.i64 i5, D.int IntKind.i64 i6, D.int IntKind.i64 i7, D.int IntKind.i64 i8, D.int IntKind.i64 i9, D.int IntKind.i64 i10, D.sl 2 z11 x12 e13, D.sl 1 z14 x15 e16, D.sl 2 z17 x18 e19]), IV.d (D.int IntKind.i64 i20)])))) (Q (some (IV.d (D.bool false), [IV.d (D.sl 4 z1 x2 e3), IV.d (D.agg [D.int IntKind.i64 i4, D.int IntKind.i64 i5, D.int IntKind.i64 i6, D.int IntKind.i64 i7, D.int IntKind.i64 i8, D.int IntKind.i64 i9, D.int IntKind.i64 i10, D.sl 2 z11 x12 e13, D.sl 1 z14 x15 e16, D.sl 2 z17 x18 e19]), IV.d (D.int IntKind.i64 i20)])))) (Q (some (IV.d (D.bool false), [IV.d (D.sl 4 z1 x2 e3), IV.d (D.agg [D.int IntKind.i64 i4, D.int IntKind.i64 i5, D.int IntKind.i64 i6, D.int IntKind.i64 i7, D.int IntKind.i64 i8, D.int IntKind.i64 i9, D.int IntKind.i64 i10, D.sl 2 z11 x12 e13, D.sl 1 z14 x15 e16, D.sl 2 z17 x18 e19]), IV.d (D.int IntKind.i64 i20)])))) (Q (some (IV.d (D.bool false), [IV.d (D.sl 4 z1 x2 e3), IV.d (D.agg [D.int IntKind.i64 i4, D.int IntKind.i64 i5, D.int IntKind.i64 i6, D.int IntKind.i64 i7, D.int IntKind.i64 i8, D.int IntKind.i64 i9, D.int IntKind.i64 i10, D.sl 2 z11 x12 e13, D.sl 1 z14 x15 e16, D.sl 2 z17 x18 e19]), IV.d (D.int IntKind.i64 i20)])))) (condW (IntKind.wrap IntKind.i64 (Int.tmod (IntKind.wrap IntKind.u64 i20) (IntKind.wrap IntKind.u64 (↑(ByteArray.size w1) : Int))) == 0) (∃ w859 w860, C 9 [IV.d (D.int IntKind.i64 w456)] = some (IV.d (D.int IntKind.i64 w859), [IV.d w860]) ∧ condW (w859 == 1700) (∃ w861 w862, C 9 [IV.d (D.int IntKind.i64 w680)] = some (IV.d (D.int IntKind.i64 w861), [IV.d w862]) ∧ condW (w861 == 1700) (∃ w863 w864, C 9 [IV.d (D.int IntKind.i64 w792)] = some (IV.d (D.int IntKind.i64 w863), [IV.d w864]) ∧ condW (w863 == 1700) (∃ w865 w866, C 9 [IV.d (D.int IntKind.i64 w848)] = some (IV.d (D.int IntKind.i64 w865), [IV.d w866]) ∧ condW (w865 == 1700) (Q (some (IV.d (D.bool true), [IV.d (D.sl 4 z1 x2 e3), IV.d (D.agg [D.int IntKind.i64 i4, D.int IntKind.i64 i5, D.int IntKind.i64 i6, D.int IntKind.i64 i7, D.int IntKind.i64 i8, D.int IntKind.i64 i9, D.int IntKind.i64 i10, D.sl 2 z11 x12 e13, D.sl 1 z14 x15 e16, D.sl 2 z17 x18 e19]), IV.d (D.int IntKind.i64 i20)]))) (Q (some (IV.d (D.bool false), [IV.d (D.sl 4 z1 x2 e3), IV.d (D.agg [D.int IntKind.i64 i4, D.int IntKind.i64 i5, D.int IntKind.i64 i6, D.int IntKind.i64 i7, D.int IntKind.i64 i8, D.int IntKind.i64 i9, D.int IntKind.i64 i10, D.sl 2 z11 x12 e13, D.sl 1 z14 x15 e16, D.sl 2 z17 x18 e19]), IV.d (D.int IntKind.i64 i20)])))) (Q (some (IV.d (D.bool false), [IV.d (D.sl 4 z1 x2 e3), IV.d (D.agg [D.int IntKind.i64 i4, D.int IntKind.i64 i5, D.int IntKind.i64 i6, D.int IntKind.i64 i7, D.int IntKind.i64 i8, D.int IntKind.i64 i9, D.int IntKind.i64 i10, D.sl 2 z11 x12 e13, D.sl 1 z14 x15 e16, D.sl 2 z17 x18 e19]), IV.d (D.int IntKind.i64 i20)])))) (Q (some (IV.d (D.bool false), [IV.d (D.sl 4 z1 x2 e3), IV.d (D.agg [D.int IntKind.i64 i4, D.int IntKind.i64 i5, D.int IntKind.i64 i6, D.int IntKind.i64 i7, D.int IntKind.i64 i8, D.int IntKind.i64 i9, D.int IntKind.i64 i10, D.sl 2 z11 x12 e13, D.sl 1 z14 x15 e16, D.sl 2 z17 x18 e19]), IV.d (D.int IntKind.i64 i20)])))) (Q (some (IV.d (D.bool false), [IV.d (D.sl 4 z1 x2 e3), IV.d (D.agg [D.int IntKind.i64 i4, D.int IntKind.i64 i5, D.int IntKind.i64 i6, D.int IntKind.i64 i7, D.int IntKind.i64 i8, D.int IntKind.i64 i9, D.int IntKind.i64 i10, D.sl 2 z11 x12 e13, D.sl 1 z14 x15 e16, D.sl 2 z17 x18 e19]), IV.d (D.int IntKind.i64 i20)])))) (condW (decide (0 ≤ IntKind.wrap IntKind.i64 (IntKind.wrap IntKind.i64 (Int.tmod (IntKind.wrap IntKind.u64 i20) (IntKind.wrap IntKind.u64 (↑(ByteArray.size w1) : Int))) - 1))) (condW (decide (IntKind.wrap IntKind.i64 (IntKind.wrap IntKind.i64 (Int.tmod (IntKind.wrap IntKind.u64 i20) (IntKind.wrap IntKind.u64 (↑(ByteArray.size w1) : Int))) - 1) < (↑(ByteArray.size w1) : Int))) (condW (byteAt w1 (Int.toNat (IntKind.wrap IntKind.i64 (IntKind.wrap IntKind.i64 (Int.tmod (IntKind.wrap IntKind.u64 i20) (IntKind.wrap IntKind.u64 (↑(ByteArray.size w1) : Int))) - 1))) == 32) (∃ w867 w868, C 9 [IV.d (D.int IntKind.i64 w456)] = some (IV.d (D.int IntKind.i64 w867), [IV.d w868]) ∧ condW (w867 == 1700) (∃ w869 w870, C 9 [IV.d (D.int IntKind.i64 w680)] = some (IV.d (D.int IntKind.i64 w869), [IV.d w870]) ∧ condW (w869 == 1700) (∃ w871 w872, C 9 [IV.d (D.int IntKind.i64 w792)] = some (IV.d (D.int IntKind.i64 w871), [IV.d w872]) ∧ condW (w871 == 1700) (∃ w873 w874, C 9 [IV.d (D.int IntKind.i64 w848)] = some (IV.d (D.int IntKind.i64 w873), [IV.d w874]) ∧ condW (w873 == 1700) (Q (some (IV.d (D.bool true), [IV.d (D.sl 4 z1 x2 e3), IV.d (D.agg [D.int IntKind.i64 i4, D.int IntKind.i64 i5, D.int IntKind.i64 i6, D.int IntKind.i64 i7, D.int IntKind.i64 i8, D.int IntKind.i64 i9, D.int IntKind.i64 i10, D.sl 2 z11 x12 e13, D.sl 1 z14 x15 e16, D.sl 2 z17 x18 e19]), IV.d (D.int IntKind.i64 i20)]))) (Q (some (IV.d (D.bool false), [IV.d (D.sl 4 z1 x2 e3), IV.d (D.agg [D.int IntKind.i64 i4, D.int IntKind.i64 i5, D.int IntKind.i64 i6, D.int IntKind.i64 i7, D.int IntKind.i64 i8, D.int IntKind.i64 i9, D.int IntKind.i64 i10, D.sl 2 z11 x12 e13, D.sl 1 z14 x15 e16, D.sl 2 z17 x18 e19]), IV.d (D.int IntKind.i64 i20)])))) (Q (some (IV.d (D.bool false), [IV.d (D.sl 4 z1 x2 e3), IV.d (D.agg [D.int IntKind.i64 i4, D.int IntKind.i64 i5, D.int IntKind.i64 i6, D.int IntKind.i64 i7, D.int IntKind.i64 i8, D.int IntKind.i64 i9, D.int IntKind.i64 i10, D.sl 2 z11 x12 e13, D.sl 1 z14 x15 e16, D.sl 2 z17 x18 e19]), IV.d (D.int IntKind.i64 i20)])))) (Q (some (IV.d (D.bool false), [IV.d (D.sl 4 z1 x2 e3), IV.d (D.agg [D.int IntKind.i64 i4, D.int IntKind.i64 i5, D.int IntKind.i64 i6, D.int IntKind.i64 i7, D.int IntKind.i64 i8, D.int IntKind.i64 i9, D.int IntKind.i64 i10, D.sl 2 z11 x12 e13, D.sl 1 z14 x15 e16, D.sl 2 z17 x18 e19]), IV.d (D.int IntKind.i64 i20)])))) (Q (some (IV.d (D.bool false), [IV.d (D.sl 4 z1 x2 e3), IV.d (D.agg [D.int IntKind.i64 i4, D.int IntKind.i64 i5, D.int IntKind.i64 i6, D.int IntKind.i64 i7, D.int IntKind.i64 i8, D.int IntKind.i64 i9, D.int IntKind.i64 i10, D.sl 2 z11 x12 e13, D.sl 1 z14 x15 e16, D.sl 2 z17 x18 e19]), IV.d (D.int IntKind.i64 i20)])))) (∃ w875 w876, C 9 [IV.d (D.int IntKind.i64 w680)] = some (IV.d (D.int IntKind.i64 w875), [IV.d w876]) ∧ condW (w875 == 1700) (∃ w877 w878, C 9 [IV.d (D.int IntKind.i64 w792)] = some (IV.d (D.int IntKind.i64 w877), [IV.d w878]) ∧ condW (w877 == 1700) (∃ w879 w880, C 9 [IV.d (D.int IntKind.i64 w848)] = some (IV.d (D.int IntKind.i64 w879), [IV.d w880]) ∧ condW (w879 == 1700) (Q (some (IV.d (D.bool true), [IV.d (D.sl 4 z1 x2 e3), IV.d (D.agg [D.int IntKind.i64 i4, D.int IntKind.i64 i5, D.int IntKind.i64 i6, D.int IntKind.i64 i7, D.int IntKind.i64 i8, D.int IntKind.i64 i9, D.int IntKind.i64 i10, D.sl 2 z11 x12 e13, D.sl 1 z14 x15 e16, D.sl 2 z17 x18 e19]), IV.d (D.int IntKind.i64 i20)]))) (Q (some (IV.d (D.bool false), [IV.d (D.sl 4 z1 x2 e3), IV.d (D.agg [D.int IntKind.i64 i4, D.int IntKind.i64 i5, D.int IntKind.i64 i6, D.int IntKind.i64 i7, D.int IntKind.i64 i8, D.int IntKind.i64 i9, D.int IntKind.i64 i10, D.sl 2 z11 x12 e13, D.sl 1 z14 x15 e16, D.sl 2 z17 x18 e19]), IV.d (D.int IntKind.i64 i20)])))) (Q (some (IV.d (D.bool false), [IV.d (D.sl 4 z1 x2 e3), IV.d (D.agg [D.int IntKind.i64 i4, D.int IntKind.i64 i5, D.int IntKind.i64 i6, D.int IntKind.i64 i7, D.int IntKind.i64 i8, D.int IntKind.i64 i9, D.int IntKind.i64 i10, D.sl 2 z11 x12 e13, D.sl 1 z14 x15 e16, D.sl 2 z17 x18 e19]), IV.d (D.int IntKind.i64 i20)])))) (Q (some (IV.d (D.bool false), [IV.d (D.sl 4 z1 x2 e3), IV.d (D.agg [D.int IntKind.i64 i4, D.int IntKind.i64 i5, D.int IntKind.i64 i6, D.int IntKind.i64 i7, D.int IntKind.i64 i8, D.int IntKind.i64 i9, D.int IntKind.i64 i10, D.sl 2 z11 x12 e13, D.sl 1 z14 x15 e16, D.sl 2 z17 x18 e19]), IV.d (D.int IntKind.i64 i20)]))))) False) False))) False) False) False) False) False) False) False) False) False) False) False) False))) (Q (some (IV.d (D.bool false), [IV.d (D.sl 4 z1 x2 e3), IV.d (D.agg [D.int IntKind.i64 i4, D.int IntKind.i64 i5, D.int IntKind.i64 i6, D.int IntKind.i64 i7, D.int IntKind.i64 i8, D.int IntKind.i64 i9, D.int IntKind.i64 i10, D.sl 2 z11 x12 e13, D.sl 1 z14 x15 e16, D.sl 2 z17 x18 e19]), IV.d (D.int IntKind.i64 i20)])))) := by kernel_rfl
end Go.Proofs.YtjoibdmiolcodaaDoor.Ab
