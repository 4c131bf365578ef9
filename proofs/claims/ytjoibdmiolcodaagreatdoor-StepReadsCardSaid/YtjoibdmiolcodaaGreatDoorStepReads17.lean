/- Steps as texts: a step's numbers, their text, what the words of a text read as. Plain; no program in sight, no condition. -/
import Derived.Lib.AtoiTie
import Derived.Lib.SplitLaws
import Derived.Test.YtjoibdmiolcodaaGreatDoorStepReads0
import Derived.Test.YtjoibdmiolcodaaGreatDoorStepReads1
import Derived.Test.YtjoibdmiolcodaaGreatDoorStepReads2
import Derived.Test.YtjoibdmiolcodaaGreatDoorStepReads3
import Derived.Test.YtjoibdmiolcodaaGreatDoorStepReads4
import Derived.Test.YtjoibdmiolcodaaGreatDoorStepReads5
import Derived.Test.YtjoibdmiolcodaaGreatDoorStepReads6
import Derived.Test.YtjoibdmiolcodaaGreatDoorStepReads7
import Derived.Test.YtjoibdmiolcodaaGreatDoorStepReads8
import Derived.Test.YtjoibdmiolcodaaGreatDoorStepReads9
import Derived.Test.YtjoibdmiolcodaaGreatDoorStepReads10
import Derived.Test.YtjoibdmiolcodaaGreatDoorStepReads11
import Derived.Test.YtjoibdmiolcodaaGreatDoorStepReads12
import Derived.Test.YtjoibdmiolcodaaGreatDoorStepReads13
import Derived.Test.YtjoibdmiolcodaaGreatDoorStepReads14
import Derived.Test.YtjoibdmiolcodaaGreatDoorStepReads15
import Derived.Test.YtjoibdmiolcodaaGreatDoorStepReads16
set_option linter.unusedVariables false
set_option linter.unusedSimpArgs false
namespace Go.Qu
open Go Go.Ab

structure Stp where
  r : Int
  a : Int
  i : Int
  s : Int
  b : Int
  j : Int
  t : Int
  c : Cl
abbrev Stp.d (s : Stp) : D := .agg [.int .i64 s.r, .int .i64 s.a, .int .i64 s.i, .int .i64 s.s, .int .i64 s.b, .int .i64 s.j, .int .i64 s.t, .sl 2 s.c.lz (lits s.c.ls) s.c.le, .sl 1 s.c.tz (rws s.c.ts) s.c.te, .sl 2 s.c.cz (lits s.c.cs) s.c.ce]
abbrev iSt (s : Stp) : IV := .d (.agg [.int .i64 s.r, .int .i64 s.a, .int .i64 s.i, .int .i64 s.s, .int .i64 s.b, .int .i64 s.j, .int .i64 s.t, .sl 2 s.c.lz (lits s.c.ls) s.c.le, .sl 1 s.c.tz (rws s.c.ts) s.c.te, .sl 2 s.c.cz (lits s.c.cs) s.c.ce])
def numB (s : Stp) : Bool := decide (0 ≤ s.r ∧ s.r ≤ 7) && (decide (-1 ≤ s.a ∧ s.a ≤ 199) && (decide (-1 ≤ s.b ∧ s.b ≤ 199) && (decide (0 ≤ s.i ∧ s.i ≤ 4) && (decide (0 ≤ s.j ∧ s.j ≤ 4) && (decide (0 ≤ s.s ∧ s.s ≤ 1) && decide (0 ≤ s.t ∧ s.t ≤ 48))))))
def mayB (g : List Sym) (s : Stp) : Bool := numB s && clB g s.c

/-! ### Numbers of a step -/
def litNs (ls : List LitR) : List Int := ls.flatMap fun l => [if l.neg then 1 else 0, (l.r.l.length : Int)] ++ l.r.l
def rowNs (ts : List Row) : List Int := ts.flatMap fun r => [(r.l.length : Int)] ++ r.l
def stepNs (s : Stp) : List Int := [s.r, s.a, s.i, s.s, s.b, s.j, s.t] ++ ([(s.c.ls.length : Int)] ++ litNs s.c.ls ++ ([(s.c.ts.length : Int)] ++ rowNs s.c.ts ++ ([(s.c.cs.length : Int)] ++ litNs s.c.cs)))
def wd (n : Int) : ByteArray := ⟨(Lib.itoa n).toArray⟩
def textOf (ns : List Int) : ByteArray := joinB (ns.map wd) ⟨#[32]⟩

/-! ### Reading -/
def numF : List ByteArray → Bool → Int × List ByteArray × Bool
  | [], _ => (0, [], true)
  | w :: r, b => ((atoiV w).1, r, b || !(atoiV w).2)
def countF (ws : List ByteArray) (b : Bool) : Int × List ByteArray × Bool :=
  if (numF ws b).2.2 = true ∨ (numF ws b).1 < 0 ∨ (((numF ws b).2.1).length : Int) < (numF ws b).1 then (0, (numF ws b).2.1, true) else ((numF ws b).1, (numF ws b).2.1, false)
def codesN : Nat → List ByteArray → Bool → List Int × List ByteArray × Bool
  | 0, ws, b => ([], ws, b)
  | k + 1, ws, b => ((numF ws b).1 :: (codesN k (numF ws b).2.1 (numF ws b).2.2).1, (codesN k (numF ws b).2.1 (numF ws b).2.2).2)
def codesF (ws : List ByteArray) (b : Bool) : List Int × List ByteArray × Bool := codesN (countF ws b).1.toNat (countF ws b).2.1 (countF ws b).2.2
def mkRow (l : List Int) : Row := ⟨l.isEmpty, l, []⟩
def litF (ws : List ByteArray) (b : Bool) : LitR × List ByteArray × Bool :=
  (⟨(numF ws b).1 == 1, mkRow (codesF (numF ws b).2.1 (numF ws b).2.2).1⟩, (codesF (numF ws b).2.1 (numF ws b).2.2).2)
def litsN : Nat → List ByteArray → Bool → List LitR × List ByteArray × Bool
  | 0, ws, b => ([], ws, b)
  | k + 1, ws, b => ((litF ws b).1 :: (litsN k (litF ws b).2.1 (litF ws b).2.2).1, (litsN k (litF ws b).2.1 (litF ws b).2.2).2)
def litsF (ws : List ByteArray) (b : Bool) : List LitR × List ByteArray × Bool := litsN (countF ws b).1.toNat (countF ws b).2.1 (countF ws b).2.2
def tupsN : Nat → List ByteArray → Bool → List Row × List ByteArray × Bool
  | 0, ws, b => ([], ws, b)
  | k + 1, ws, b => (mkRow (codesF ws b).1 :: (tupsN k (codesF ws b).2.1 (codesF ws b).2.2).1, (tupsN k (codesF ws b).2.1 (codesF ws b).2.2).2)
def tupsF (ws : List ByteArray) (b : Bool) : List Row × List ByteArray × Bool := tupsN (countF ws b).1.toNat (countF ws b).2.1 (countF ws b).2.2

/-! ### How long, what is left -/
theorem numF_len (ws : List ByteArray) (b : Bool) : (numF ws b).2.1.length ≤ ws.length := by
  cases ws <;> simp [numF]
theorem countF_len (ws : List ByteArray) (b : Bool) : (countF ws b).2.1.length ≤ ws.length ∧ 0 ≤ (countF ws b).1 ∧ (countF ws b).1 ≤ ws.length := by
  have h := numF_len ws b
  unfold countF
  split
  · exact ⟨h, by simp, by simp⟩
  · rename_i h2
    simp only [not_or, Int.not_lt] at h2
    exact ⟨h, h2.2.1, by omega⟩
theorem codesN_len : ∀ (k : Nat) (ws : List ByteArray) (b : Bool), (codesN k ws b).2.1.length ≤ ws.length ∧ (codesN k ws b).1.length = k
  | 0, ws, b => ⟨Nat.le_refl _, rfl⟩
  | k + 1, ws, b => by
    have h := codesN_len k (numF ws b).2.1 (numF ws b).2.2
    have h2 := numF_len ws b
    simp only [codesN, List.length_cons]
    omega
theorem codesF_len (ws : List ByteArray) (b : Bool) : (codesF ws b).2.1.length ≤ ws.length ∧ (codesF ws b).1.length ≤ ws.length := by
  have h := codesN_len (countF ws b).1.toNat (countF ws b).2.1 (countF ws b).2.2
  have h2 := countF_len ws b
  unfold codesF
  omega
theorem litF_len (ws : List ByteArray) (b : Bool) : (litF ws b).2.1.length ≤ ws.length := by
  have h := codesF_len (numF ws b).2.1 (numF ws b).2.2
  have h2 := numF_len ws b
  unfold litF
  dsimp only
  omega
theorem numF_sub (ws : List ByteArray) (b : Bool) : ∀ w ∈ (numF ws b).2.1, w ∈ ws := by
  cases ws with
  | nil => simp [numF]
  | cons w r => intro x hx; exact List.mem_cons_of_mem _ hx
theorem countF_sub (ws : List ByteArray) (b : Bool) : ∀ w ∈ (countF ws b).2.1, w ∈ ws := by
  unfold countF
  split <;> exact numF_sub ws b
theorem codesN_sub : ∀ (k : Nat) (ws : List ByteArray) (b : Bool), ∀ w ∈ (codesN k ws b).2.1, w ∈ ws
  | 0, ws, b, w, h => h
  | k + 1, ws, b, w, h => numF_sub ws b w (codesN_sub k _ _ w h)
theorem codesF_sub (ws : List ByteArray) (b : Bool) : ∀ w ∈ (codesF ws b).2.1, w ∈ ws := fun w h => countF_sub ws b w (codesN_sub _ _ _ w h)
theorem litF_sub (ws : List ByteArray) (b : Bool) : ∀ w ∈ (litF ws b).2.1, w ∈ ws := fun w h => numF_sub ws b w (codesF_sub _ _ w h)
theorem litsN_sub : ∀ (k : Nat) (ws : List ByteArray) (b : Bool), ∀ w ∈ (litsN k ws b).2.1, w ∈ ws
  | 0, ws, b, w, h => h
  | k + 1, ws, b, w, h => litF_sub ws b w (litsN_sub k _ _ w h)
theorem litsF_sub (ws : List ByteArray) (b : Bool) : ∀ w ∈ (litsF ws b).2.1, w ∈ ws := fun w h => countF_sub ws b w (litsN_sub _ _ _ w h)
theorem tupsN_sub : ∀ (k : Nat) (ws : List ByteArray) (b : Bool), ∀ w ∈ (tupsN k ws b).2.1, w ∈ ws
  | 0, ws, b, w, h => h
  | k + 1, ws, b, w, h => codesF_sub ws b w (tupsN_sub k _ _ w h)
theorem tupsF_sub (ws : List ByteArray) (b : Bool) : ∀ w ∈ (tupsF ws b).2.1, w ∈ ws := fun w h => countF_sub ws b w (tupsN_sub _ _ _ w h)
theorem litsN_len : ∀ (k : Nat) (ws : List ByteArray) (b : Bool), (litsN k ws b).2.1.length ≤ ws.length ∧ (litsN k ws b).1.length = k
  | 0, ws, b => ⟨Nat.le_refl _, rfl⟩
  | k + 1, ws, b => by
    have h := litsN_len k (litF ws b).2.1 (litF ws b).2.2
    have h2 := litF_len ws b
    simp only [litsN, List.length_cons]
    omega
theorem litsF_len (ws : List ByteArray) (b : Bool) : (litsF ws b).2.1.length ≤ ws.length := by
  have h := litsN_len (countF ws b).1.toNat (countF ws b).2.1 (countF ws b).2.2
  have h2 := countF_len ws b
  unfold litsF
  omega
theorem tupsN_len : ∀ (k : Nat) (ws : List ByteArray) (b : Bool), (tupsN k ws b).2.1.length ≤ ws.length ∧ (tupsN k ws b).1.length = k
  | 0, ws, b => ⟨Nat.le_refl _, rfl⟩
  | k + 1, ws, b => by
    have h := tupsN_len k (codesF ws b).2.1 (codesF ws b).2.2
    have h2 := codesF_len ws b
    simp only [tupsN, List.length_cons]
    omega
theorem tupsF_len (ws : List ByteArray) (b : Bool) : (tupsF ws b).2.1.length ≤ ws.length := by
  have h := tupsN_len (countF ws b).1.toNat (countF ws b).2.1 (countF ws b).2.2
  have h2 := countF_len ws b
  unfold tupsF
  omega

/-! ### A whole step -/
def stepF (ws : List ByteArray) : Stp × List ByteArray × Bool :=
  let x1 := numF ws false
  let x2 := numF x1.2.1 x1.2.2
  let x3 := numF x2.2.1 x2.2.2
  let x4 := numF x3.2.1 x3.2.2
  let x5 := numF x4.2.1 x4.2.2
  let x6 := numF x5.2.1 x5.2.2
  let x7 := numF x6.2.1 x6.2.2
  let y1 := litsF x7.2.1 x7.2.2
  let y2 := tupsF y1.2.1 y1.2.2
  let y3 := litsF y2.2.1 y2.2.2
  (⟨x1.1, x2.1, x3.1, x4.1, x5.1, x6.1, x7.1, ⟨y1.1.isEmpty, y1.1, [], y2.1.isEmpty, y2.1, [], y3.1.isEmpty, y3.1, []⟩⟩, y3.2.1, y3.2.2)

/-! ### A number's word -/
theorem digits_byte {n : Nat} (h : n < 10) : (UInt8.ofNat (48 + n)).toNat = 48 + n := by
  simp [UInt8.toNat_ofNat]; omega
def Dig (l : List UInt8) : Prop := l ≠ [] ∧ ∀ c ∈ l, 48 ≤ c.toNat ∧ c.toNat ≤ 57
theorem decDigits_dig : ∀ (n : Nat), Dig (Lib.decDigits n) := by
  intro n
  induction n using Nat.strongRecOn with
  | ind n ih =>
    rw [Lib.decDigits]
    split
    · rename_i h
      refine ⟨by simp, fun c hc => ?_⟩
      simp only [List.mem_singleton] at hc
      subst hc
      rw [digits_byte h]; omega
    · rename_i h
      have h2 := ih (n / 10) (by omega)
      refine ⟨by simp, fun c hc => ?_⟩
      rcases List.mem_append.1 hc with hc | hc
      · exact h2.2 c hc
      · simp only [List.mem_singleton] at hc
        subst hc
        rw [digits_byte (by omega)]; omega
theorem digitVal_of {n : Nat} (h : n < 10) : Lib.digitVal (UInt8.ofNat (48 + n)) = some n := by
  have h2 : ∀ m : Fin 10, Lib.digitVal (UInt8.ofNat (48 + m.val)) = some m.val := by decide +kernel
  exact h2 ⟨n, h⟩
theorem decFrom_append (l m : List UInt8) : ∀ (acc : Nat), Lib.decFrom acc (l ++ m) = (Lib.decFrom acc l).bind fun a => Lib.decFrom a m := by
  induction l with
  | nil => intro acc; rfl
  | cons c l ih =>
    intro acc
    simp only [List.cons_append, Lib.decFrom]
    cases Lib.digitVal c with
    | none => rfl
    | some d => exact ih _
theorem decFrom_dec : ∀ (n : Nat), Lib.decFrom 0 (Lib.decDigits n) = some n := by
  intro n
  induction n using Nat.strongRecOn with
  | ind n ih =>
    rw [Lib.decDigits]
    split
    · rename_i h
      unfold Lib.decFrom
      rw [digitVal_of h]
      unfold Lib.decFrom
      simp
    · rename_i h
      rw [decFrom_append, ih (n / 10) (by omega), Option.bind_some]
      unfold Lib.decFrom
      rw [digitVal_of (show n % 10 < 10 by omega)]
      unfold Lib.decFrom
      simp only [Option.some.injEq]
      omega
theorem decNat_dec (n : Nat) : Lib.decNat (Lib.decDigits n) = some n := by
  have h := decDigits_dig n
  have h2 := decFrom_dec n
  unfold Lib.decNat
  cases hl : Lib.decDigits n with
  | nil => exact (h.1 hl).elim
  | cons c r => rw [hl] at h2; simpa using h2
theorem itoa_len {n : Int} (h1 : -1000000000 < n) (h2 : n < 1000000000) : (Lib.itoa n).length ≤ 10 := by
  have key : ∀ (k m : Nat), m < 10 ^ (k + 1) → (Lib.decDigits m).length ≤ k + 1 := by
    intro k
    induction k with
    | zero => intro m hm; rw [Lib.decDigits, dif_pos (by omega)]; simp
    | succ k ih =>
      intro m hm
      rw [Lib.decDigits]
      split
      · simp
      · have := ih (m / 10) (by rw [Nat.pow_succ] at hm; omega)
        rw [List.length_append, List.length_singleton]
        omega
  unfold Lib.itoa
  split
  · have := key 8 n.natAbs (by omega)
    rw [List.length_cons]
    omega
  · have := key 8 n.toNat (by omega)
    omega
def NumOk (n : Int) : Prop := -1000000000 < n ∧ n < 1000000000
theorem wd_list (n : Int) : (wd n).data.toList = Lib.itoa n := by simp [wd]
theorem wd_size (n : Int) : (wd n).size = (Lib.itoa n).length := by simp [wd, ByteArray.size]
theorem atoi_itoa (n : Int) : Lib.atoi (Lib.itoa n) = some n := by
  unfold Lib.itoa
  split
  · rename_i h
    unfold Lib.atoi
    simp only [beq_self_eq_true, if_true, decNat_dec, Option.map_some, Option.some.injEq]
    omega
  · rename_i h
    have h1 := decDigits_dig n.toNat
    have h2 := decNat_dec n.toNat
    cases hl : Lib.decDigits n.toNat with
    | nil => exact (h1.1 hl).elim
    | cons c r =>
      rw [hl] at h1 h2
      have hc := h1.2 c (by simp)
      have e1 : (c == 45) = false := by
        rw [beq_eq_false_iff_ne]; rintro rfl; have : (45 : UInt8).toNat = 45 := rfl; omega
      have e2 : (c == 43) = false := by
        rw [beq_eq_false_iff_ne]; rintro rfl; have : (43 : UInt8).toNat = 43 := rfl; omega
      unfold Lib.atoi
      simp only [e1, e2, Bool.false_eq_true, if_false, h2, Option.map_some, Option.some.injEq]
      omega
theorem atoiV_wd {n : Int} (h : NumOk n) : atoiV (wd n) = (n, true) := by
  unfold atoiV
  rw [wd_list, Lib.atoiAll_short _ (by have := itoa_len h.1 h.2; omega), atoi_itoa]
  rfl
/-- No blank in a number's word. -/
theorem itoa_noblank (n : Int) : ∀ c ∈ Lib.itoa n, c ≠ 32 := by
  intro c hc
  have key : ∀ m, c ∈ Lib.decDigits m → c ≠ 32 := fun m h => by
    have := (decDigits_dig m).2 c h
    rintro rfl
    have : (32 : UInt8).toNat = 32 := rfl
    omega
  unfold Lib.itoa at hc
  split at hc
  · rcases List.mem_cons.1 hc with rfl | hc
    · decide
    · exact key _ hc
  · exact key _ hc
theorem itoa_ne (n : Int) : Lib.itoa n ≠ [] := by
  unfold Lib.itoa
  split
  · simp
  · exact (decDigits_dig _).1
/-! ### Reading what was written -/
theorem numF_wd {n : Int} (h : NumOk n) (r : List ByteArray) (b : Bool) : numF (wd n :: r) b = (n, r, b) := by
  simp [numF, atoiV_wd h]
theorem countF_wd {n : Nat} (h : NumOk n) {r : List ByteArray} (hr : n ≤ r.length) : countF (wd n :: r) false = ((n : Int), r, false) := by
  unfold countF
  rw [numF_wd h, if_neg]
  simp
  omega
theorem codesN_wd : ∀ (l : List Int) (r : List ByteArray) (b : Bool), (∀ n ∈ l, NumOk n) → codesN l.length (l.map wd ++ r) b = (l, r, b)
  | [], r, b, _ => rfl
  | n :: l, r, b, h => by
    have ih := codesN_wd l r b (fun x hx => h x (List.mem_cons_of_mem _ hx))
    simp only [List.length_cons, List.map_cons, List.cons_append, codesN, numF_wd (h n (by simp)), ih]
theorem codesF_wd {l : List Int} (hl : l.length < 1000000000) (h : ∀ n ∈ l, NumOk n) (r : List ByteArray) : codesF (wd l.length :: (l.map wd ++ r)) false = (l, r, false) := by
  unfold codesF
  rw [countF_wd (by unfold NumOk; omega) (by simp)]
  exact codesN_wd l r false h
def NumsOk (l : List Int) : Prop := l.length < 1000000000 ∧ ∀ n ∈ l, NumOk n
theorem litF_wd {x : LitR} (h : NumsOk x.r.l) (r : List ByteArray) : litF (([if x.neg then 1 else 0, (x.r.l.length : Int)] ++ x.r.l).map wd ++ r) false = (⟨x.neg, mkRow x.r.l⟩, r, false) := by
  have e : ([if x.neg then 1 else 0, (x.r.l.length : Int)] ++ x.r.l).map wd ++ r = wd (if x.neg then 1 else 0) :: (wd x.r.l.length :: (x.r.l.map wd ++ r)) := by simp
  rw [e]
  unfold litF
  rw [numF_wd (by unfold NumOk; split <;> omega)]
  dsimp only
  rw [codesF_wd h.1 h.2]
  cases x.neg <;> rfl
theorem litsN_wd : ∀ (ls : List LitR) (r : List ByteArray), (∀ x ∈ ls, NumsOk x.r.l) → litsN ls.length ((litNs ls).map wd ++ r) false = (ls.map fun x => ⟨x.neg, mkRow x.r.l⟩, r, false)
  | [], r, _ => rfl
  | x :: ls, r, h => by
    have ih := litsN_wd ls r (fun y hy => h y (List.mem_cons_of_mem _ hy))
    have e : (litNs (x :: ls)).map wd ++ r = ([if x.neg then 1 else 0, (x.r.l.length : Int)] ++ x.r.l).map wd ++ ((litNs ls).map wd ++ r) := by
      simp [litNs]
    rw [e, List.length_cons]
    simp only [litsN, litF_wd (h x (by simp)), ih, List.map_cons]
theorem litNs_len (ls : List LitR) : ls.length ≤ (litNs ls).length := by
  induction ls with
  | nil => simp
  | cons x ls ih =>
    have e : litNs (x :: ls) = ([if x.neg then 1 else 0, (x.r.l.length : Int)] ++ x.r.l) ++ litNs ls := rfl
    rw [e]
    simp
    omega
theorem litsF_wd {ls : List LitR} (hn : ls.length < 1000000000) (h : ∀ x ∈ ls, NumsOk x.r.l) (r : List ByteArray) : litsF (([(ls.length : Int)] ++ litNs ls).map wd ++ r) false = (ls.map fun x => ⟨x.neg, mkRow x.r.l⟩, r, false) := by
  have e : ([(ls.length : Int)] ++ litNs ls).map wd ++ r = wd ls.length :: ((litNs ls).map wd ++ r) := by simp
  have := litNs_len ls
  unfold litsF
  rw [e, countF_wd (by unfold NumOk; omega) (by simp; omega)]
  exact litsN_wd ls r h
theorem tupsN_wd : ∀ (ts : List Row) (r : List ByteArray), (∀ x ∈ ts, NumsOk x.l) → tupsN ts.length ((rowNs ts).map wd ++ r) false = (ts.map fun x => mkRow x.l, r, false)
  | [], r, _ => rfl
  | x :: ts, r, h => by
    have ih := tupsN_wd ts r (fun y hy => h y (List.mem_cons_of_mem _ hy))
    have hx := h x (by simp)
    have e : (rowNs (x :: ts)).map wd ++ r = wd x.l.length :: (x.l.map wd ++ ((rowNs ts).map wd ++ r)) := by
      simp [rowNs]
    rw [e, List.length_cons]
    simp only [tupsN, codesF_wd hx.1 hx.2, ih, List.map_cons]
theorem rowNs_len (ts : List Row) : ts.length ≤ (rowNs ts).length := by
  induction ts with
  | nil => simp
  | cons x ts ih =>
    have e : rowNs (x :: ts) = ([(x.l.length : Int)] ++ x.l) ++ rowNs ts := rfl
    rw [e]
    simp
    omega
theorem tupsF_wd {ts : List Row} (hn : ts.length < 1000000000) (h : ∀ x ∈ ts, NumsOk x.l) (r : List ByteArray) : tupsF (([(ts.length : Int)] ++ rowNs ts).map wd ++ r) false = (ts.map fun x => mkRow x.l, r, false) := by
  have e : ([(ts.length : Int)] ++ rowNs ts).map wd ++ r = wd ts.length :: ((rowNs ts).map wd ++ r) := by simp
  have := rowNs_len ts
  unfold tupsF
  rw [e, countF_wd (by unfold NumOk; omega) (by simp; omega)]
  exact tupsN_wd ts r h
/-- What may be written. -/
structure StpOk (x : Stp) : Prop where
  pr : NumOk x.r
  pa : NumOk x.a
  pi : NumOk x.i
  ps : NumOk x.s
  pb : NumOk x.b
  pj : NumOk x.j
  pt : NumOk x.t
  ln : x.c.ls.length < 1000000000
  ls : ∀ y ∈ x.c.ls, NumsOk y.r.l
  tn : x.c.ts.length < 1000000000
  ts : ∀ y ∈ x.c.ts, NumsOk y.l
  cn : x.c.cs.length < 1000000000
  cs : ∀ y ∈ x.c.cs, NumsOk y.r.l
def newC (c : Cl) : Cl := ⟨c.ls.isEmpty, c.ls.map fun x => ⟨x.neg, mkRow x.r.l⟩, [], c.ts.isEmpty, c.ts.map fun x => mkRow x.l, [], c.cs.isEmpty, c.cs.map fun x => ⟨x.neg, mkRow x.r.l⟩, []⟩
def newT (s : Stp) : Stp := { s with c := newC s.c }
theorem stepF_wd {s : Stp} (h : StpOk s) (r : List ByteArray) : stepF ((stepNs s).map wd ++ r) = (newT s, r, false) := by
  have e : (stepNs s).map wd ++ r = wd s.r :: wd s.a :: wd s.i :: wd s.s :: wd s.b :: wd s.j :: wd s.t :: (([(s.c.ls.length : Int)] ++ litNs s.c.ls).map wd ++ (([(s.c.ts.length : Int)] ++ rowNs s.c.ts).map wd ++ (([(s.c.cs.length : Int)] ++ litNs s.c.cs).map wd ++ r))) := by
    simp [stepNs]
  rw [e]
  unfold stepF
  simp only [numF_wd h.pr, numF_wd h.pa, numF_wd h.pi, numF_wd h.ps, numF_wd h.pb, numF_wd h.pj, numF_wd h.pt]
  rw [litsF_wd h.ln h.ls]
  dsimp only
  rw [tupsF_wd h.tn h.ts]
  dsimp only
  rw [litsF_wd h.cn h.cs]
  simp [newT, newC]

/-! ### The words of a text -/
theorem index_ne {b : UInt8} (l : List UInt8) (h : b ≠ 32) : Lib.index (b :: l) [32] = if Lib.index l [32] == -1 then -1 else Lib.index l [32] + 1 := by
  have hp : ([32] : List UInt8).isPrefixOf (b :: l) = false := by simp [List.isPrefixOf, Ne.symm h]
  rw [Lib.index, hp]; simp
theorem index_eq (l : List UInt8) : Lib.index (32 :: l) [32] = 0 := by
  rw [Lib.index]; simp [List.isPrefixOf]
theorem index_none : ∀ (l : List UInt8), (∀ c ∈ l, c ≠ 32) → Lib.index l [32] = -1
  | [], _ => by rw [Lib.index]; simp
  | b :: l, h => by rw [index_ne l (h b (by simp)), index_none l (fun c hc => h c (List.mem_cons_of_mem _ hc))]; rfl
theorem index_some : ∀ (l m : List UInt8), (∀ c ∈ l, c ≠ 32) → Lib.index (l ++ 32 :: m) [32] = l.length
  | [], m, _ => index_eq m
  | b :: l, m, h => by
    have ih := index_some l m (fun c hc => h c (List.mem_cons_of_mem _ hc))
    rw [List.cons_append, index_ne _ (h b (by simp)), ih, if_neg]
    · simp
    · rw [beq_iff_eq]; omega
def blankB : ByteArray := ⟨#[32]⟩
def NoBl (w : ByteArray) : Prop := ∀ c ∈ w.data.toList, c ≠ 32
theorem ba_ext {a b : ByteArray} (h : a.data.toList = b.data.toList) : a = b := by
  obtain ⟨⟨x⟩⟩ := a
  obtain ⟨⟨y⟩⟩ := b
  simp at h
  rw [h]
theorem ba_len (x : ByteArray) : x.data.toList.length = x.size := Array.length_toList
theorem extract_list (s : ByteArray) (a b : Nat) : (s.extract a b).data.toList = (s.data.toList.drop a).take (b - a) := by
  rw [ByteArray.data_extract, Array.toList_extract, List.extract_eq_take_drop]
theorem joinB_list (xs : List ByteArray) : (joinB xs blankB).data.toList = Lib.join (xs.map (·.data.toList)) [32] := by
  simp [joinB, blankB]
theorem splitV_join : ∀ (r : List ByteArray) (x : ByteArray), NoBl x → (∀ w ∈ r, NoBl w) → splitV (joinB (x :: r) blankB) blankB = x :: r
  | [], x, hx, _ => by
    have e : joinB [x] blankB = x := ba_ext (by rw [joinB_list]; simp [Lib.join_one])
    have hi : Lib.indexB x blankB = -1 := index_none _ hx
    unfold splitV
    rw [e, Lib.countB_miss x blankB hi]
    rfl
  | y :: r, x, hx, hr => by
    have ih := splitV_join r y (hr y (by simp)) (fun w hw => hr w (List.mem_cons_of_mem _ hw))
    have e : (joinB (x :: y :: r) blankB).data.toList = x.data.toList ++ 32 :: (joinB (y :: r) blankB).data.toList := by
      rw [joinB_list, joinB_list, List.map_cons, List.map_cons, Lib.join_cons, Lib.join_cons]
      simp [Lib.joinTail]
    have hi : Lib.indexB (joinB (x :: y :: r) blankB) blankB = ((x.size : Nat) : Int) := by
      show Lib.index (joinB (x :: y :: r) blankB).data.toList [32] = _
      rw [e, index_some _ _ hx, ba_len]
    have hs : (joinB (x :: y :: r) blankB).size = x.size + 1 + (joinB (y :: r) blankB).size := by
      have := congrArg List.length e
      rw [List.length_append, List.length_cons, ba_len, ba_len, ba_len] at this
      omega
    have e1 : (joinB (x :: y :: r) blankB).extract 0 (x.size + 0) = x := ba_ext (by
      rw [extract_list, e, List.drop_zero, Nat.add_zero, Nat.sub_zero, ← ba_len x, List.take_left])
    have e2 : (joinB (x :: y :: r) blankB).extract (x.size + blankB.size) (joinB (x :: y :: r) blankB).size = joinB (y :: r) blankB := ba_ext (by
      rw [extract_list, e, hs]
      have h1 : x.size = x.data.toList.length := (ba_len x).symm
      have h2 : blankB.size = 1 := rfl
      have h3 : (joinB (y :: r) blankB).size = (joinB (y :: r) blankB).data.toList.length := (ba_len _).symm
      rw [h2, h1, h3, List.drop_append, List.drop_of_length_le (by omega), List.nil_append, show x.data.toList.length + 1 - x.data.toList.length = 1 by omega]
      simp only [List.drop_succ_cons, List.drop_zero]
      rw [List.take_of_length_le (by omega)])
    unfold splitV
    rw [Lib.countB_hit _ blankB x.size (by decide) hi, e2, Nat.add_comm, Lib.splitB_hit blankB 0 _ _ x.size hi, e1, e2]
    unfold splitV at ih
    rw [ih]
theorem noBl_wd (n : Int) : NoBl (wd n) := fun c hc => itoa_noblank n c (by rwa [wd_list] at hc)
theorem split_text {ns : List Int} (h : ns ≠ []) : splitV (textOf ns) blankB = ns.map wd := by
  cases ns with
  | nil => exact (h rfl).elim
  | cons n ns => exact splitV_join (ns.map wd) (wd n) (noBl_wd n) (fun w hw => by obtain ⟨m, _, rfl⟩ := List.mem_map.1 hw; exact noBl_wd m)
theorem stepNs_ne (s : Stp) : stepNs s ≠ [] := by simp [stepNs]
/-- What a step's text reads as. -/
theorem read_text {s : Stp} (h : StpOk s) : stepF (splitV (textOf (stepNs s)) blankB) = (newT s, [], false) := by
  rw [split_text (stepNs_ne s)]
  have := stepF_wd h []
  rwa [List.append_nil] at this
/-- How long the text is. -/
theorem textOf_size : ∀ (ns : List Int), (∀ n ∈ ns, NumOk n) → (textOf ns).size ≤ 11 * ns.length
  | [], _ => by decide
  | [n], h => by
    have e : textOf [n] = wd n := ba_ext (by unfold textOf; rw [show (⟨#[32]⟩ : ByteArray) = blankB from rfl, joinB_list]; simp [Lib.join_one])
    have h1 := h n (by simp)
    have := itoa_len h1.1 h1.2
    rw [e, wd_size]
    simp
    omega
  | n :: m :: ns, h => by
    have ih := textOf_size (m :: ns) (fun x hx => h x (List.mem_cons_of_mem _ hx))
    have h1 := h n (by simp)
    have h2 := itoa_len h1.1 h1.2
    have e : (textOf (n :: m :: ns)).data.toList = (wd n).data.toList ++ 32 :: (textOf (m :: ns)).data.toList := by
      unfold textOf
      rw [show (⟨#[32]⟩ : ByteArray) = blankB from rfl, joinB_list, joinB_list, List.map_cons, List.map_cons, List.map_cons, List.map_cons, Lib.join_cons, Lib.join_cons]
      simp [Lib.joinTail]
    have h3 := congrArg List.length e
    rw [wd_list] at h3
    rw [ba_len, List.length_append, List.length_cons, ba_len] at h3
    simp only [List.length_cons] at ih ⊢
    omega
end Go.Qu

/- Steps: may one be, its text. For every input; no condition. -/
set_option linter.unusedVariables false
set_option linter.unusedSimpArgs false
set_option maxRecDepth 100000
namespace Go.Proofs.YtjoibdmiolcodaaGreatDoor.Ab
open Go Go.Ab Go.Qu Go.Proofs
attribute [local simp] and_assoc
theorem w_within (n a b : Int) : C 43 [iI n, iI a, iI b] = some (iB (decide (a ≤ n ∧ n ≤ b)), [iI n, iI a, iI b]) := by
  refine wfn (lk := []) rfl rfl (fnW_way (q43 _ _ n a b _) ?_)
  by_cases h1 : a ≤ n
  · by_cases h2 : n ≤ b <;> simp [h1, h2]
  · simp [h1]
theorem w_numbersmay (s : Stp) : C 22 [iSt s] = some (iB (numB s), [iSt s]) := by
  refine wfn (lk := []) rfl rfl (fnW_way (q22 _ _ s.r s.a s.i s.s s.b s.j s.t s.c.lz (lits s.c.ls) s.c.le s.c.tz (rws s.c.ts) s.c.te s.c.cz (lits s.c.cs) s.c.ce _) ?_)
  unfold numB
  by_cases h1 : 0 ≤ s.r ∧ s.r ≤ 7
  rotate_left
  · simp [w_within, h1]
  by_cases h2 : -1 ≤ s.a ∧ s.a ≤ 199
  rotate_left
  · simp [w_within, h1, h2]
  by_cases h3 : -1 ≤ s.b ∧ s.b ≤ 199
  rotate_left
  · simp [w_within, h1, h2, h3]
  by_cases h4 : 0 ≤ s.i ∧ s.i ≤ 4
  rotate_left
  · simp [w_within, h1, h2, h3, h4]
  by_cases h5 : 0 ≤ s.j ∧ s.j ≤ 4
  rotate_left
  · simp [w_within, h1, h2, h3, h4, h5]
  by_cases h6 : 0 ≤ s.s ∧ s.s ≤ 1
  rotate_left
  · simp [w_within, h1, h2, h3, h4, h5, h6]
  by_cases h7 : 0 ≤ s.t ∧ s.t ≤ 48
  · simp [w_within, h1, h2, h3, h4, h5, h6, h7]
  · simp [w_within, h1, h2, h3, h4, h5, h6, h7]
theorem w_stepmay (z : Bool) (g : List Sym) (e : List D) (s : Stp) : C 9 [iG z g e, iSt s] = some (iB (mayB g s), [iG z g e, iSt s]) := by
  refine wfn (lk := []) rfl rfl (fnW_way (q9 _ _ z (syms g) e s.r s.a s.i s.s s.b s.j s.t s.c.lz (lits s.c.ls) s.c.le s.c.tz (rws s.c.ts) s.c.te s.c.cz (lits s.c.cs) s.c.ce _) ?_)
  unfold mayB
  refine ⟨_, _, w_numbersmay s, ?_⟩
  cases hn : numB s with
  | false => simp
  | true =>
    rw [condW_tt]
    refine ⟨_, _, _, w_clmay z g e s.c, ?_⟩
    cases clB g s.c <;> simp
theorem w_errnum (n : Int) : C 10 [iI n] = some (iI n, [iI n]) := by
  exact wfn (lk := []) rfl rfl (fnW_way (q10 _ _ n _) (by simp))
theorem w_samestep {s : Stp} (h : ClIn s.c) (u : Stp) : C 15 [iSt s, iSt u] = some (iB (decide (([s.r, s.a, s.i, s.s, s.b, s.j, s.t], clKey s.c) = ([u.r, u.a, u.i, u.s, u.b, u.j, u.t], clKey u.c))), [iSt s, iSt u]) := by
  refine wfn (lk := []) rfl rfl (fnW_way (q15 _ _ s.r s.a s.i s.s s.b s.j s.t s.c.lz (lits s.c.ls) s.c.le s.c.tz (rws s.c.ts) s.c.te s.c.cz (lits s.c.cs) s.c.ce u.r u.a u.i u.s u.b u.j u.t u.c.lz (lits u.c.ls) u.c.le u.c.tz (rws u.c.ts) u.c.te u.c.cz (lits u.c.cs) u.c.ce _) ?_)
  by_cases h1 : s.r = u.r
  rotate_left
  · simp [h1]
  by_cases h2 : s.a = u.a
  rotate_left
  · simp [h1, h2]
  by_cases h3 : s.i = u.i
  rotate_left
  · simp [h1, h2, h3]
  by_cases h4 : s.s = u.s
  rotate_left
  · simp [h1, h2, h3, h4]
  by_cases h5 : s.b = u.b
  rotate_left
  · simp [h1, h2, h3, h4, h5]
  by_cases h6 : s.j = u.j
  rotate_left
  · simp [h1, h2, h3, h4, h5, h6]
  by_cases h7 : s.t = u.t
  rotate_left
  · simp [h1, h2, h3, h4, h5, h6, h7]
  have hc := w_sameclause h u.c
  by_cases h8 : clKey s.c = clKey u.c
  · simp [h1, h2, h3, h4, h5, h6, h7, hc, h8]
  · simp [h1, h2, h3, h4, h5, h6, h7, hc, h8]
/-! ### The text -/
theorem w_itoa {n : Int} (h : NumOk n) : C 37 [iI n] = some (.d (.str (wd n)), [iI n]) := by
  refine W_prim (p := itoaP) (by rfl) ?_
  unfold itoaP
  unfold NumOk at h
  dsimp only
  rw [if_pos (by omega)]
  rfl
theorem litNs_snoc (ls : List LitR) (l : LitR) : litNs (ls ++ [l]) = litNs ls ++ ([if l.neg then 1 else 0, (l.r.l.length : Int)] ++ l.r.l) := by simp [litNs]
theorem rowNs_snoc (ls : List Row) (l : Row) : rowNs (ls ++ [l]) = rowNs ls ++ ([(l.l.length : Int)] ++ l.l) := by simp [rowNs]
theorem litNs_take (ls : List LitR) (i : Nat) : (litNs (ls.take i)).length ≤ (litNs ls).length := by
  have e : litNs ls = litNs (ls.take i) ++ litNs (ls.drop i) := by
    unfold litNs
    rw [← List.flatMap_append, List.take_append_drop]
  rw [e]; simp
theorem rowNs_take (ls : List Row) (i : Nat) : (rowNs (ls.take i)).length ≤ (rowNs ls).length := by
  have e : rowNs ls = rowNs (ls.take i) ++ rowNs (ls.drop i) := by
    unfold rowNs
    rw [← List.flatMap_append, List.take_append_drop]
  rw [e]; simp
theorem w_slits (z : Bool) (xs : List Int) {ls : List LitR} (hn : xs.length + 1 + (litNs ls).length ≤ 1000000) (z' : Bool) (e : List D) : C 36 [.own z 3 1 (ints xs), iL z' ls e] = some (.own false 3 1 (ints (xs ++ ([(ls.length : Int)] ++ litNs ls))), [.dead, iL z' ls e]) := by
  refine wfn (lk := []) rfl rfl (fnW_way (q36 _ _ z (ints xs) z' (lits ls) e _) ?_)
  have hl := litNs_len ls
  have h1 := blk_fun (F := F) (d := d36) (lk := []) (p := [1,1,0,1,0,0]) (p0 := [1,1,0,1]) (id := 0) (by kernel_rfl) (st := fun (i : Nat) => [(0, .own false 3 1 (ints (xs ++ ([(ls.length : Int)] ++ litNs (ls.take i))))), (13, iL z' ls e), (14, iI ls.length), (15, iI i)]) (I := fun i => i ≤ ls.length) (μ := fun i => ls.length - i)
    (res := fun _ => .norm [(0, .own false 3 1 (ints (xs ++ ([(ls.length : Int)] ++ litNs ls)))), (13, iL z' ls e), (14, iI ls.length), (15, iI ls.length)])
    (fun i hi => by
      by_cases h : i < ls.length
      · obtain ⟨l, hl1⟩ := at_lt h
        have e1 : ls.take (i + 1) = ls.take i ++ [l] := by rw [List.take_add_one, hl1]; rfl
        have hb := litNs_take ls (i + 1)
        rw [e1, litNs_snoc] at hb
        simp only [List.length_append, List.length_cons, List.length_nil] at hb
        refine .go (i + 1) (wpQ_way (q36_l0a _ _ false (ints (xs ++ ([(ls.length : Int)] ++ litNs (ls.take i)))) z' (lits ls) e ls.length i _) ?_) h (by omega) rfl
        have g0 : ((i : Int) < ls.length) := by omega
        have g1 : ((xs ++ ([(ls.length : Int)] ++ litNs (ls.take i))).length : Nat) + l.r.l.length + 2 ≤ 1000000 := by
          simp only [List.length_append, List.length_cons, List.length_nil]
          omega
        generalize hA : xs ++ ([(ls.length : Int)] ++ litNs (ls.take i)) = A at g1 ⊢
        have e2 : xs ++ ([(ls.length : Int)] ++ litNs (ls.take (i + 1))) = A ++ ([if l.neg then 1 else 0, (l.r.l.length : Int)] ++ l.r.l) := by
          rw [e1, litNs_snoc, ← hA]; simp
        rw [e2]
        have k1 : (A.length : Int) + (0 + 1 + 1) ≤ 9223372036854775807 := by omega
        have k2 : ((A.length : Int) + (0 + 1 + 1)) * 8 ≤ 140737488355328 := by omega
        have k3 : A.length + 1 + 1 + l.r.l.length ≤ 9223372036854775807 := by omega
        have k4 : (A.length + 1 + 1 + l.r.l.length) * 8 ≤ 140737488355328 := by omega
        have k5 : A.length + (0 + 1 + 1) ≤ 9223372036854775807 := by omega
        have k6 : (A.length + (0 + 1 + 1)) * 8 ≤ 140737488355328 := by omega
        cases hneg : l.neg <;> simp [-getElem?_pos, g0, lits_len, lits_at hl1, hneg, ints_len, ints, k1, k2, k3, k4, k5, k6, wr1 h (by omega)] <;> omega
      · have e1 : i = ls.length := by omega
        subst e1
        refine .stop (.exit 0 [(0, .own false 3 1 (ints (xs ++ ([(ls.length : Int)] ++ litNs ls)))), (13, iL z' ls e), (14, iI ls.length), (15, iI ls.length)]) (wpQ_way (q36_l0a _ _ false (ints (xs ++ ([(ls.length : Int)] ++ litNs (ls.take ls.length)))) z' (lits ls) e ls.length ls.length _) ?_) rfl rfl
        simp [List.take_length]) 0 (Nat.zero_le _)
  have k1 : (ints xs).length + (0 + 1) ≤ 9223372036854775807 := by rw [ints_len]; omega
  have k2 : ((ints xs).length + (0 + 1)) * 8 ≤ 140737488355328 := by rw [ints_len]; omega
  rw [condW_d, if_pos k1, condW_d, if_pos k2]
  have e3 : ints (xs ++ ([(ls.length : Int)] ++ litNs (ls.take 0))) = ints xs ++ [.int .i64 ((lits ls).length : Nat)] := by
    simp [litNs, ints, lits_len]
  rw [e3] at h1
  rw [lits_len] at h1
  rw [Bool.and_false, lits_len]
  exact ⟨_, _, _, _, _, _, _, h1, rfl⟩
end Go.Proofs.YtjoibdmiolcodaaGreatDoor.Ab

/- Steps: reading the words of a text. For every input; no condition. -/
set_option linter.unusedVariables false
set_option linter.unusedSimpArgs false
set_option maxRecDepth 100000
namespace Go.Proofs.YtjoibdmiolcodaaGreatDoor.Ab
open Go Go.Ab Go.Qu Go.Proofs
attribute [local simp] and_assoc
/-- The reader: the words that are left, is it bad? -/
abbrev iRd (ws : List ByteArray) (b : Bool) : IV := .dbox 61 0 [.sl 1 false (ws.map .str) [], .bool b]
def WsOk (ws : List ByteArray) : Prop := ws.length ≤ 4294967296 ∧ ∀ w ∈ ws, w.size ≤ 281474976710656
theorem WsOk.sub {ws ws' : List ByteArray} (h : WsOk ws) (h1 : ws'.length ≤ ws.length) (h2 : ∀ w ∈ ws', w ∈ ws) : WsOk ws' := ⟨by have := h.1; omega, fun w hw => h.2 w (h2 w hw)⟩
theorem w_atoi {s : ByteArray} (h : s.size ≤ 281474976710656) : C 48 [.d (.str s)] = some (.tup [iI (atoiV s).1, .d (.ifc (atoiV s).2)], [.d (.str s)]) := by
  refine W_prim (p := atoiP) (by rfl) ?_
  unfold atoiP
  dsimp only
  rw [if_pos h]
theorem w_rnum {ws : List ByteArray} (h : WsOk ws) (b : Bool) : C 26 [iRd ws b] = some (iI (numF ws b).1, [iRd (numF ws b).2.1 (numF ws b).2.2]) := by
  refine wfn (lk := [0]) rfl rfl (fnW_way (q26 _ _ false (ws.map .str) [] b _) ?_)
  cases ws with
  | nil => simp [numF]
  | cons w r =>
    have hw := w_atoi (h.2 w (by simp))
    have k1 : ¬ ((r.length : Int) + 1 == 0) = true := by rw [beq_iff_eq]; omega
    have k2 : (1 : Int) ≤ (r.length : Int) + 1 := by omega
    have k3 : ¬ ((r.length : Int) + 1 = 0) := by omega
    have k4 : ¬ (r.length + 1 = 0) := by omega
    cases b <;> cases hv : (atoiV w).2 <;> simp [numF, hw, k1, k2, k3, k4, hv]
theorem w_count {ws : List ByteArray} (h : WsOk ws) (b : Bool) : C 49 [iRd ws b] = some (iI (countF ws b).1, [iRd (countF ws b).2.1 (countF ws b).2.2]) := by
  refine wfn (lk := [0]) rfl rfl (fnW_way (q49 _ _ false (ws.map .str) [] b _) ?_)
  refine ⟨_, _, _, _, _, w_rnum h b, ?_⟩
  unfold countF
  cases hb : (numF ws b).2.2 with
  | true => simp
  | false =>
    by_cases h1 : (numF ws b).1 < 0
    · simp [h1]
    · by_cases h2 : ((numF ws b).2.1.length : Int) < (numF ws b).1
      · simp [h1, h2]
      · simp [h1, h2]
theorem w_codes {ws : List ByteArray} (h : WsOk ws) (b : Bool) : C 50 [iRd ws b] = some (.own (codesF ws b).1.isEmpty 3 1 (ints (codesF ws b).1), [iRd (codesF ws b).2.1 (codesF ws b).2.2]) := by
  refine wfn (lk := [0]) rfl rfl (fnW_way (q50 _ _ false (ws.map .str) [] b _) ?_)
  refine ⟨_, _, _, _, _, w_count h b, ?_⟩
  have hc := countF_len ws b
  have hcs := countF_sub ws b
  unfold codesF
  generalize countF ws b = x at hc hcs ⊢
  obtain ⟨n, ws0, b0⟩ := x
  dsimp only at hc hcs ⊢
  obtain ⟨m, rfl⟩ : ∃ m : Nat, n = (m : Int) := ⟨n.toNat, by omega⟩
  have hm : m ≤ 4294967296 := by have := h.1; omega
  have hw0 : WsOk ws0 := h.sub hc.1 hcs
  have h1 := blk_fun (F := F) (d := d50) (lk := [0]) (p := [1,1,0,1,0,0]) (p0 := [1,1,0,1]) (id := 0) (by kernel_rfl) (st := fun (x : List Int × List ByteArray × Bool) => [(0, iRd x.2.1 x.2.2), (3, .own x.1.isEmpty 3 1 (ints x.1)), (5, iI m), (6, iI x.1.length)]) (I := fun x => x.1.length ≤ m ∧ WsOk x.2.1) (μ := fun x => m - x.1.length)
    (res := fun x => .norm [(0, iRd (codesN (m - x.1.length) x.2.1 x.2.2).2.1 (codesN (m - x.1.length) x.2.1 x.2.2).2.2), (3, .own (x.1 ++ (codesN (m - x.1.length) x.2.1 x.2.2).1).isEmpty 3 1 (ints (x.1 ++ (codesN (m - x.1.length) x.2.1 x.2.2).1))), (5, iI m), (6, iI m)])
    (fun x hx => by
      obtain ⟨xs, vs, c⟩ := x
      obtain ⟨hx1, hx2⟩ := hx
      dsimp only at hx1 hx2 ⊢
      by_cases hlt : xs.length < m
      · refine .go (xs ++ [(numF vs c).1], (numF vs c).2.1, (numF vs c).2.2) (wpQ_way (q50_l0a _ _ false (vs.map .str) [] c xs.isEmpty (ints xs) m xs.length _) ?_) ⟨by simp; omega, hx2.sub (numF_len vs c) (numF_sub vs c)⟩ (by simp; omega) ?_
        · have k0 : ((xs.length : Nat) : Int) < (m : Int) := by omega
          have k1 : xs.length + 1 ≤ 9223372036854775807 := by omega
          have k2 : (xs.length + 1) * 8 ≤ 140737488355328 := by omega
          have k3 := wr1 (i := xs.length) (n := m) hlt (by omega)
          simp [k0, w_rnum hx2, ints_len, k1, k2, k3, ints]
        · have e1 : m - xs.length = (m - (xs.length + 1)) + 1 := by omega
          dsimp only
          rw [List.length_append, List.length_singleton, e1]
          simp only [codesN, List.append_assoc, List.singleton_append]
      · have e1 : m = xs.length := by omega
        subst e1
        refine .stop (.exit 0 [(0, iRd vs c), (3, .own xs.isEmpty 3 1 (ints xs)), (5, iI xs.length), (6, iI xs.length)]) (wpQ_way (q50_l0a _ _ false (vs.map .str) [] c xs.isEmpty (ints xs) xs.length xs.length _) ?_) rfl ?_
        · simp
        · simp [codesN, blkO]) ([], ws0, b0) ⟨Nat.zero_le _, hw0⟩
  simp only [List.length_nil, Nat.sub_zero, List.nil_append] at h1
  rw [Int.toNat_natCast]
  exact ⟨_, _, _, _, _, _, _, _, h1, rfl⟩
theorem w_rlits {ws : List ByteArray} (h : WsOk ws) (b : Bool) : C 27 [iRd ws b] = some (.own (litsF ws b).1.isEmpty 55 2 (lits (litsF ws b).1), [iRd (litsF ws b).2.1 (litsF ws b).2.2]) := by
  refine wfn (lk := [0]) rfl rfl (fnW_way (q27 _ _ false (ws.map .str) [] b _) ?_)
  refine ⟨_, _, _, _, _, w_count h b, ?_⟩
  have hc := countF_len ws b
  have hcs := countF_sub ws b
  unfold litsF
  generalize countF ws b = x at hc hcs ⊢
  obtain ⟨n, ws0, b0⟩ := x
  dsimp only at hc hcs ⊢
  obtain ⟨m, rfl⟩ : ∃ m : Nat, n = (m : Int) := ⟨n.toNat, by omega⟩
  have hm : m ≤ 4294967296 := by have := h.1; omega
  have hw0 : WsOk ws0 := h.sub hc.1 hcs
  have h1 := blk_fun (F := F) (d := d27) (lk := [0]) (p := [1,1,0,1,0,0]) (p0 := [1,1,0,1]) (id := 0) (by kernel_rfl) (st := fun (x : List LitR × List ByteArray × Bool) => [(0, iRd x.2.1 x.2.2), (3, .own x.1.isEmpty 55 2 (lits x.1)), (6, iI m), (7, iI x.1.length)]) (I := fun x => x.1.length ≤ m ∧ WsOk x.2.1) (μ := fun x => m - x.1.length)
    (res := fun x => .norm [(0, iRd (litsN (m - x.1.length) x.2.1 x.2.2).2.1 (litsN (m - x.1.length) x.2.1 x.2.2).2.2), (3, .own (x.1 ++ (litsN (m - x.1.length) x.2.1 x.2.2).1).isEmpty 55 2 (lits (x.1 ++ (litsN (m - x.1.length) x.2.1 x.2.2).1))), (6, iI m), (7, iI m)])
    (fun x hx => by
      obtain ⟨xs, vs, c⟩ := x
      obtain ⟨hx1, hx2⟩ := hx
      dsimp only at hx1 hx2 ⊢
      by_cases hlt : xs.length < m
      · refine .go (xs ++ [(litF vs c).1], (litF vs c).2.1, (litF vs c).2.2) (wpQ_way (q27_l0a _ _ false (vs.map .str) [] c xs.isEmpty (lits xs) m xs.length _) ?_) ⟨by simp; omega, hx2.sub (litF_len vs c) (litF_sub vs c)⟩ (by simp; omega) ?_
        · have k0 : ((xs.length : Nat) : Int) < (m : Int) := by omega
          have k1 : xs.length + 1 ≤ 9223372036854775807 := by omega
          have k2 : (xs.length + 1) * 32 ≤ 140737488355328 := by omega
          have k3 := wr1 (i := xs.length) (n := m) hlt (by omega)
          have k4 := w_codes (hx2.sub (numF_len vs c) (numF_sub vs c)) (numF vs c).2.2
          have k5 : lits (xs ++ [(litF vs c).1]) = lits xs ++ [.agg [.bool ((numF vs c).1 == 1), .sl 1 (codesF (numF vs c).2.1 (numF vs c).2.2).1.isEmpty (ints (codesF (numF vs c).2.1 (numF vs c).2.2).1) []]] := by
            simp [lits, litF, LitR.d, mkRow]
          rw [k5]
          rw [condW_d, if_pos k0]
          refine ⟨_, _, _, _, _, w_rnum hx2 c, ?_⟩
          cases hn : (numF vs c).1 == 1 with
          | true =>
            rw [condW_tt]
            refine ⟨_, _, _, _, _, _, k4, ?_⟩
            simp [lits_len, k1, k2, k3, litF]
          | false =>
            rw [condW_ff]
            refine ⟨_, _, _, _, _, _, k4, ?_⟩
            simp [lits_len, k1, k2, k3, litF]
        · have e1 : m - xs.length = (m - (xs.length + 1)) + 1 := by omega
          dsimp only
          rw [List.length_append, List.length_singleton, e1]
          simp only [litsN, List.append_assoc, List.singleton_append]
      · have e1 : m = xs.length := by omega
        subst e1
        refine .stop (.exit 0 [(0, iRd vs c), (3, .own xs.isEmpty 55 2 (lits xs)), (6, iI xs.length), (7, iI xs.length)]) (wpQ_way (q27_l0a _ _ false (vs.map .str) [] c xs.isEmpty (lits xs) xs.length xs.length _) ?_) rfl ?_
        · simp
        · simp [litsN, blkO]) ([], ws0, b0) ⟨Nat.zero_le _, hw0⟩
  simp only [List.length_nil, Nat.sub_zero, List.nil_append] at h1
  rw [Int.toNat_natCast]
  exact ⟨_, _, _, _, _, _, _, _, h1, rfl⟩
theorem w_tuples {ws : List ByteArray} (h : WsOk ws) (b : Bool) : C 28 [iRd ws b] = some (.own (tupsF ws b).1.isEmpty 48 1 (rws (tupsF ws b).1), [iRd (tupsF ws b).2.1 (tupsF ws b).2.2]) := by
  refine wfn (lk := [0]) rfl rfl (fnW_way (q28 _ _ false (ws.map .str) [] b _) ?_)
  refine ⟨_, _, _, _, _, w_count h b, ?_⟩
  have hc := countF_len ws b
  have hcs := countF_sub ws b
  unfold tupsF
  generalize countF ws b = x at hc hcs ⊢
  obtain ⟨n, ws0, b0⟩ := x
  dsimp only at hc hcs ⊢
  obtain ⟨m, rfl⟩ : ∃ m : Nat, n = (m : Int) := ⟨n.toNat, by omega⟩
  have hm : m ≤ 4294967296 := by have := h.1; omega
  have hw0 : WsOk ws0 := h.sub hc.1 hcs
  have h1 := blk_fun (F := F) (d := d28) (lk := [0]) (p := [1,1,0,1,0,0]) (p0 := [1,1,0,1]) (id := 0) (by kernel_rfl) (st := fun (x : List Row × List ByteArray × Bool) => [(0, iRd x.2.1 x.2.2), (3, .own x.1.isEmpty 48 1 (rws x.1)), (5, iI m), (6, iI x.1.length)]) (I := fun x => x.1.length ≤ m ∧ WsOk x.2.1) (μ := fun x => m - x.1.length)
    (res := fun x => .norm [(0, iRd (tupsN (m - x.1.length) x.2.1 x.2.2).2.1 (tupsN (m - x.1.length) x.2.1 x.2.2).2.2), (3, .own (x.1 ++ (tupsN (m - x.1.length) x.2.1 x.2.2).1).isEmpty 48 1 (rws (x.1 ++ (tupsN (m - x.1.length) x.2.1 x.2.2).1))), (5, iI m), (6, iI m)])
    (fun x hx => by
      obtain ⟨xs, vs, c⟩ := x
      obtain ⟨hx1, hx2⟩ := hx
      dsimp only at hx1 hx2 ⊢
      by_cases hlt : xs.length < m
      · refine .go (xs ++ [mkRow (codesF vs c).1], (codesF vs c).2.1, (codesF vs c).2.2) (wpQ_way (q28_l0a _ _ false (vs.map .str) [] c xs.isEmpty (rws xs) m xs.length _) ?_) ⟨by simp; omega, hx2.sub (codesF_len vs c).1 (codesF_sub vs c)⟩ (by simp; omega) ?_
        · have k0 : ((xs.length : Nat) : Int) < (m : Int) := by omega
          have k1 : xs.length + 1 ≤ 9223372036854775807 := by omega
          have k2 : (xs.length + 1) * 24 ≤ 140737488355328 := by omega
          have k3 := wr1 (i := xs.length) (n := m) hlt (by omega)
          have k5 : rws (xs ++ [mkRow (codesF vs c).1]) = rws xs ++ [.sl 1 (codesF vs c).1.isEmpty (ints (codesF vs c).1) []] := by
            simp [rws, Row.d, mkRow]
          rw [k5]
          simp [k0, w_codes hx2, rws_len, k1, k2, k3]
        · have e1 : m - xs.length = (m - (xs.length + 1)) + 1 := by omega
          dsimp only
          rw [List.length_append, List.length_singleton, e1]
          simp only [tupsN, List.append_assoc, List.singleton_append]
      · have e1 : m = xs.length := by omega
        subst e1
        refine .stop (.exit 0 [(0, iRd vs c), (3, .own xs.isEmpty 48 1 (rws xs)), (5, iI xs.length), (6, iI xs.length)]) (wpQ_way (q28_l0a _ _ false (vs.map .str) [] c xs.isEmpty (rws xs) xs.length xs.length _) ?_) rfl ?_
        · simp
        · simp [tupsN, blkO]) ([], ws0, b0) ⟨Nat.zero_le _, hw0⟩
  simp only [List.length_nil, Nat.sub_zero, List.nil_append] at h1
  rw [Int.toNat_natCast]
  exact ⟨_, _, _, _, _, _, _, _, h1, rfl⟩
end Go.Proofs.YtjoibdmiolcodaaGreatDoor.Ab

/- Steps: the text of one that may be; a text's step. For every input; no condition. -/
set_option linter.unusedVariables false
set_option linter.unusedSimpArgs false
set_option maxRecDepth 100000
namespace Go.Proofs.YtjoibdmiolcodaaGreatDoor.Ab
open Go Go.Ab Go.Qu Go.Proofs
attribute [local simp] and_assoc
theorem ints_get {l : List Int} {i : Nat} {n : Int} (h : l[i]? = some n) : (ints l)[i]? = some (.int .i64 n) := by simp [ints, h]
/-- How much a step's text can be. -/
structure Small (s : Stp) : Prop where
  n : (stepNs s).length ≤ 10000
  ok : ∀ x ∈ stepNs s, NumOk x
theorem strsOf_wd : ∀ (ns : List Int), strsOf (ns.map fun n => D.str (wd n)) = some (ns.map wd)
  | [] => rfl
  | n :: ns => by simp [strsOf, strsOf_wd ns]
theorem w_join {ns : List Int} (hn : ns.length ≤ 10000) (ho : ∀ x ∈ ns, NumOk x) (z : Bool) (e : List D) : C 38 [.d (.sl 1 z (ns.map fun n => D.str (wd n)) e), .d (.str ⟨#[32]⟩)] = some (.d (.str (textOf ns)), [.d (.sl 1 z (ns.map fun n => D.str (wd n)) e), .d (.str ⟨#[32]⟩)]) := by
  refine W_prim (p := joinP) (by rfl) ?_
  have hs := textOf_size ns ho
  have h2 : (Lib.join ((ns.map wd).map (·.data.toList)) (⟨#[32]⟩ : ByteArray).data.toList).length ≤ 140737488355328 := by
    have e1 : (textOf ns).data.toList = Lib.join ((ns.map wd).map (·.data.toList)) [32] := joinB_list _
    have e2 := congrArg List.length e1
    rw [ba_len] at e2
    show (Lib.join ((ns.map wd).map (·.data.toList)) [32]).length ≤ _
    omega
  unfold joinP
  simp only [strsOf_wd]
  rw [if_pos ⟨h2, by simp; omega⟩]
  rfl
theorem w_write {s : Stp} (h : Small s) : C 17 [iSt s] = some (.d (.str (textOf (stepNs s))), [iSt s]) := by
  refine wfn (lk := []) rfl rfl (fnW_way (q17 _ _ s.r s.a s.i s.s s.b s.j s.t s.c.lz (lits s.c.ls) s.c.le s.c.tz (rws s.c.ts) s.c.te s.c.cz (lits s.c.cs) s.c.ce _) ?_)
  obtain ⟨hn, ho⟩ := h
  have hlen : (stepNs s).length = 7 + (1 + (litNs s.c.ls).length + (1 + (rowNs s.c.ts).length + (1 + (litNs s.c.cs).length))) := by
    simp [stepNs]; omega
  have hr := rowNs_len s.c.ts
  have a1 := w_slits false [s.r, s.a, s.i, s.s, s.b, s.j, s.t] (ls := s.c.ls) (by simp; omega) s.c.lz s.c.le
  generalize hA : [s.r, s.a, s.i, s.s, s.b, s.j, s.t] ++ ([(s.c.ls.length : Int)] ++ litNs s.c.ls) = A at a1
  have hAl : A.length = 8 + (litNs s.c.ls).length := by rw [← hA]; simp; omega
  refine ⟨_, _, _, a1, ?_⟩
  have k1 : (ints A).length + (0 + 1) ≤ 9223372036854775807 := by rw [ints_len]; omega
  have k2 : ((ints A).length + (0 + 1)) * 8 ≤ 140737488355328 := by rw [ints_len]; omega
  rw [condW_d, if_pos k1, condW_d, if_pos k2]
  have h1 := blk_fun (F := F) (d := d17) (lk := []) (p := [1,1,1,0,1,0,0]) (p0 := [1,1,1,0,1]) (id := 0) (by kernel_rfl) (st := fun (i : Nat) => [(1, .dbox 28 0 [.int .i64 s.r, .int .i64 s.a, .int .i64 s.i, .int .i64 s.s, .int .i64 s.b, .int .i64 s.j, .int .i64 s.t, .sl 2 s.c.lz (lits s.c.ls) s.c.le, .sl 1 s.c.tz (rws s.c.ts) s.c.te, .sl 2 s.c.cz (lits s.c.cs) s.c.ce]), (3, .own false 3 1 (ints (A ++ ([(s.c.ts.length : Int)] ++ rowNs (s.c.ts.take i))))), (37, iR s.c.tz s.c.ts s.c.te), (38, iI s.c.ts.length), (39, iI i)]) (I := fun i => i ≤ s.c.ts.length) (μ := fun i => s.c.ts.length - i)
    (res := fun _ => .norm [(1, .dbox 28 0 [.int .i64 s.r, .int .i64 s.a, .int .i64 s.i, .int .i64 s.s, .int .i64 s.b, .int .i64 s.j, .int .i64 s.t, .sl 2 s.c.lz (lits s.c.ls) s.c.le, .sl 1 s.c.tz (rws s.c.ts) s.c.te, .sl 2 s.c.cz (lits s.c.cs) s.c.ce]), (3, .own false 3 1 (ints (A ++ ([(s.c.ts.length : Int)] ++ rowNs s.c.ts)))), (37, iR s.c.tz s.c.ts s.c.te), (38, iI s.c.ts.length), (39, iI s.c.ts.length)])
    (fun i hi => by
      by_cases h : i < s.c.ts.length
      · obtain ⟨l, hl1⟩ := at_lt h
        have e1 : s.c.ts.take (i + 1) = s.c.ts.take i ++ [l] := by rw [List.take_add_one, hl1]; rfl
        have hb := rowNs_take s.c.ts (i + 1)
        rw [e1, rowNs_snoc] at hb
        simp only [List.length_append, List.length_cons, List.length_nil] at hb
        refine .go (i + 1) (wpQ_way (q17_l0a _ _ s.r s.a s.i s.s s.b s.j s.t s.c.lz (lits s.c.ls) s.c.le s.c.tz (rws s.c.ts) s.c.te s.c.cz (lits s.c.cs) s.c.ce false (ints (A ++ ([(s.c.ts.length : Int)] ++ rowNs (s.c.ts.take i)))) s.c.tz (rws s.c.ts) s.c.te s.c.ts.length i _) ?_) h (by omega) rfl
        have g0 : ((i : Int) < s.c.ts.length) := by omega
        have g1 : ((A ++ ([(s.c.ts.length : Int)] ++ rowNs (s.c.ts.take i))).length : Nat) + l.l.length + 2 ≤ 1000000 := by
          simp only [List.length_append, List.length_cons, List.length_nil]
          omega
        generalize hB : A ++ ([(s.c.ts.length : Int)] ++ rowNs (s.c.ts.take i)) = B at g1 ⊢
        have e2 : A ++ ([(s.c.ts.length : Int)] ++ rowNs (s.c.ts.take (i + 1))) = B ++ ([(l.l.length : Int)] ++ l.l) := by
          rw [e1, rowNs_snoc, ← hB]; simp
        rw [e2]
        have k5 : B.length + 1 ≤ 9223372036854775807 := by omega
        have k6 : (B.length + 1) * 8 ≤ 140737488355328 := by omega
        have k7 : B.length + 1 + l.l.length ≤ 9223372036854775807 := by omega
        have k8 : (B.length + 1 + l.l.length) * 8 ≤ 140737488355328 := by omega
        simp [-getElem?_pos, g0, rws_len, rws_at hl1, ints_len, ints, k5, k6, k7, k8, wr1 h (by omega)]
      · have e1 : i = s.c.ts.length := by omega
        subst e1
        refine .stop (.exit 0 [(1, .dbox 28 0 [.int .i64 s.r, .int .i64 s.a, .int .i64 s.i, .int .i64 s.s, .int .i64 s.b, .int .i64 s.j, .int .i64 s.t, .sl 2 s.c.lz (lits s.c.ls) s.c.le, .sl 1 s.c.tz (rws s.c.ts) s.c.te, .sl 2 s.c.cz (lits s.c.cs) s.c.ce]), (3, .own false 3 1 (ints (A ++ ([(s.c.ts.length : Int)] ++ rowNs s.c.ts)))), (37, iR s.c.tz s.c.ts s.c.te), (38, iI s.c.ts.length), (39, iI s.c.ts.length)]) (wpQ_way (q17_l0a _ _ s.r s.a s.i s.s s.b s.j s.t s.c.lz (lits s.c.ls) s.c.le s.c.tz (rws s.c.ts) s.c.te s.c.cz (lits s.c.cs) s.c.ce false (ints (A ++ ([(s.c.ts.length : Int)] ++ rowNs (s.c.ts.take s.c.ts.length)))) s.c.tz (rws s.c.ts) s.c.te s.c.ts.length s.c.ts.length _) ?_) rfl rfl
        simp [List.take_length]) 0 (Nat.zero_le _)
  have e3 : ints (A ++ ([(s.c.ts.length : Int)] ++ rowNs (s.c.ts.take 0))) = ints A ++ [.int .i64 (s.c.ts.length : Nat)] := by
    simp [rowNs, ints]
  rw [e3] at h1
  rw [Bool.and_false, rws_len]
  refine ⟨_, _, _, _, _, _, _, _, _, _, _, _, _, _, _, _, _, _, _, _, _, _, _, h1, ?_⟩
  clear h1 e3
  generalize hB : A ++ ([(s.c.ts.length : Int)] ++ rowNs s.c.ts) = B
  have hBl : B.length = A.length + (1 + (rowNs s.c.ts).length) := by rw [← hB]; simp; omega
  have a2 := w_slits false B (ls := s.c.cs) (by omega) s.c.cz s.c.ce
  have hS : B ++ ([(s.c.cs.length : Int)] ++ litNs s.c.cs) = stepNs s := by
    rw [← hB, ← hA]; simp [stepNs]
  rw [hS] at a2
  refine ⟨_, _, _, a2, ?_⟩
  have hne : 0 < (stepNs s).length := by omega
  generalize hN : stepNs s = ns at hn ho hne ⊢
  have m1 : (16 : Int) * ((ints ns).length : Int) ≤ 281474976710656 := by rw [ints_len]; omega
  have m2 : ((ints ns).length : Int) ≤ 9223372036854775807 := by rw [ints_len]; omega
  rw [condW_d, if_pos rfl, condW_d, if_pos (by simpa using m1), condW_d, if_pos (by simpa using m2)]
  have h2 := blk_fun (F := F) (d := d17) (lk := []) (p := [1,1,1,1,1,1,0,1,0,0]) (p0 := [1,1,1,1,1,1,0,1]) (id := 2) (by kernel_rfl) (st := fun (i : Nat) => [(6, .own false 9 1 ((ns.take i).map (fun n => D.str (wd n)) ++ List.replicate (ns.length - i) (D.str ⟨#[]⟩))), (59, .own false 3 1 (ints ns)), (60, iI ns.length), (61, iI i)]) (I := fun i => i ≤ ns.length) (μ := fun i => ns.length - i)
    (res := fun _ => .norm [(6, .own false 9 1 (ns.map (fun n => D.str (wd n)))), (59, .own false 3 1 (ints ns)), (60, iI ns.length), (61, iI ns.length)])
    (fun i hi => by
      by_cases h : i < ns.length
      · obtain ⟨n, hn1⟩ := at_lt h
        have e1 : ns.take (i + 1) = ns.take i ++ [n] := by rw [List.take_add_one, hn1]; rfl
        have e0 : ns.length - i = (ns.length - (i + 1)) + 1 := by omega
        refine .go (i + 1) (wpQ_way (q17_l2a _ _ false ((ns.take i).map (fun n => D.str (wd n)) ++ List.replicate (ns.length - i) (D.str ⟨#[]⟩)) false (ints ns) ns.length i _) ?_) h (by omega) rfl
        have g0 : ((i : Int) < ns.length) := by omega
        have ho1 := ho n (List.mem_of_getElem? hn1)
        have hl : ((ns.take i).map (fun n => D.str (wd n))).length = i := by simp; omega
        have g2 : ((ns.take i).map (fun n => D.str (wd n)) ++ List.replicate (ns.length - i) (D.str ⟨#[]⟩))[i]? = some (.str ⟨#[]⟩) := by
          rw [List.getElem?_append_right (by omega), hl, e0, Nat.sub_self]
          simp [List.replicate_succ]
        have g3 : ((ns.take i).map (fun n => D.str (wd n)) ++ List.replicate (ns.length - i) (D.str ⟨#[]⟩)).set i (.str (wd n)) = (ns.take (i + 1)).map (fun n => D.str (wd n)) ++ List.replicate (ns.length - (i + 1)) (D.str ⟨#[]⟩) := by
          rw [List.set_append_right _ _ (by omega), hl, Nat.sub_self, e0, List.replicate_succ, List.set_cons_zero, e1]
          simp
        have k9 := wr1 h (by omega)
        rw [condW_d, if_pos g0, condW_d, if_pos (by omega), Int.toNat_natCast]
        refine ⟨_, ints_get hn1, _, ints_get hn1, _, _, w_itoa ho1, ?_⟩
        rw [condW_d, if_pos (by omega)]
        refine ⟨_, g2, _, g2, ?_⟩
        rw [g3, k9]
      · have e1 : i = ns.length := by omega
        subst e1
        refine .stop (.exit 2 [(6, .own false 9 1 (ns.map (fun n => D.str (wd n)))), (59, .own false 3 1 (ints ns)), (60, iI ns.length), (61, iI ns.length)]) (wpQ_way (q17_l2a _ _ false ((ns.take ns.length).map (fun n => D.str (wd n)) ++ List.replicate (ns.length - ns.length) (D.str ⟨#[]⟩)) false (ints ns) ns.length ns.length _) ?_) rfl rfl
        simp [List.take_length]) 0 (Nat.zero_le _)
  simp only [List.take_zero, List.map_nil, List.nil_append, Nat.sub_zero] at h2
  rw [ints_len, Int.toNat_natCast]
  refine ⟨_, _, _, _, _, _, h2, ?_⟩
  exact ⟨_, _, _, w_join hn ho false [], rfl⟩
end Go.Proofs.YtjoibdmiolcodaaGreatDoor.Ab

/- Steps as texts: what may be written, what is read, spoilt texts. Plain; no program in sight, no condition. -/
set_option linter.unusedVariables false
set_option linter.unusedSimpArgs false
namespace Go.Qu
open Go Go.Ab

theorem nums_atom {g : List Sym} {a : List Int} (h : atomB g a = true) : NumsOk a := by
  obtain ⟨h1, h2, h3⟩ := atom_codes h
  exact ⟨by omega, fun n hn => by have := h2 n hn; unfold NumOk; omega⟩
theorem nums_row {g : List Sym} {r : List Int} (hg : g.length ≤ 20) (h : rowB g r = true) : NumsOk r := by
  have h1 := rowB_len h
  exact ⟨by omega, fun n hn => by have := row_codes h n hn; unfold NumOk; omega⟩
theorem sig_len {g : List Sym} (h : sigB g = true) : g.length ≤ 20 := by
  exact (sigOk h).hi
structure ClFacts (g : List Sym) (c : Cl) : Prop where
  sg : sigB g = true
  n1 : c.ls.length ≤ 5
  n2 : c.ts.length ≤ 3
  n3 : c.cs.length ≤ 3
  l1 : litsB g c.ls = true
  l2 : rowsB g c.ts = true
  l3 : litsB g c.cs = true
  n4 : lenL c.ls + lenR c.ts + lenL c.cs ≤ 240
theorem cl_facts {g : List Sym} {c : Cl} (h : clB g c = true) : ClFacts g c := by
  simp only [clB, Bool.and_eq_true, decide_eq_true_eq] at h
  exact ⟨h.1, h.2.1, h.2.2.1, h.2.2.2.1, h.2.2.2.2.1, h.2.2.2.2.2.1, h.2.2.2.2.2.2.1, h.2.2.2.2.2.2.2⟩
theorem lits_nums {g : List Sym} {ls : List LitR} (h : litsB g ls = true) : ∀ x ∈ ls, NumsOk x.r.l := fun x hx => nums_atom (List.all_eq_true.1 h x hx)
theorem rows_nums {g : List Sym} (hg : g.length ≤ 20) {ts : List Row} (h : rowsB g ts = true) : ∀ x ∈ ts, NumsOk x.l := fun x hx => by
  cases ts with
  | nil => cases hx
  | cons r rs =>
    have h2 : rowsF g (termsN g r.l) (r :: rs) = true := h
    have h3 := List.all_eq_true.1 h2 x hx
    simp only [Bool.and_eq_true] at h3
    exact nums_row hg h3.1
theorem num_facts {s : Stp} (h : numB s = true) : (0 ≤ s.r ∧ s.r ≤ 7) ∧ (-1 ≤ s.a ∧ s.a ≤ 199) ∧ (-1 ≤ s.b ∧ s.b ≤ 199) ∧ (0 ≤ s.i ∧ s.i ≤ 4) ∧ (0 ≤ s.j ∧ s.j ≤ 4) ∧ (0 ≤ s.s ∧ s.s ≤ 1) ∧ (0 ≤ s.t ∧ s.t ≤ 48) := by
  simpa only [numB, Bool.and_eq_true, decide_eq_true_eq] using h
theorem may_ok {g : List Sym} {s : Stp} (h : mayB g s = true) : StpOk s := by
  simp only [mayB, Bool.and_eq_true] at h
  obtain ⟨h1, h2⟩ := h
  obtain ⟨a1, a2, a3, a4, a5, a6, a7⟩ := num_facts h1
  have c := cl_facts h2
  have hg := sig_len c.sg
  have := c.n1
  have := c.n2
  have := c.n3
  exact ⟨by unfold NumOk; omega, by unfold NumOk; omega, by unfold NumOk; omega, by unfold NumOk; omega, by unfold NumOk; omega, by unfold NumOk; omega, by unfold NumOk; omega, by omega, lits_nums c.l1, by omega, rows_nums hg c.l2, by omega, lits_nums c.l3⟩
theorem litNs_all {ls : List LitR} (h : ∀ x ∈ ls, NumsOk x.r.l) : ∀ n ∈ litNs ls, NumOk n := by
  intro n hn
  obtain ⟨x, hx, h2⟩ := List.mem_flatMap.1 hn
  have h3 := h x hx
  simp only [List.cons_append, List.nil_append, List.mem_cons] at h2
  rcases h2 with rfl | rfl | h2
  · unfold NumOk; split <;> omega
  · have := h3.1; unfold NumOk; omega
  · exact h3.2 n h2
theorem rowNs_all {ts : List Row} (h : ∀ x ∈ ts, NumsOk x.l) : ∀ n ∈ rowNs ts, NumOk n := by
  intro n hn
  obtain ⟨x, hx, h2⟩ := List.mem_flatMap.1 hn
  have h3 := h x hx
  simp only [List.cons_append, List.nil_append, List.mem_cons] at h2
  rcases h2 with rfl | h2
  · have := h3.1; unfold NumOk; omega
  · exact h3.2 n h2
theorem litNs_length (ls : List LitR) : (litNs ls).length = 2 * ls.length + lenL ls := by
  induction ls with
  | nil => rfl
  | cons x ls ih =>
    have e : litNs (x :: ls) = ([if x.neg then 1 else 0, (x.r.l.length : Int)] ++ x.r.l) ++ litNs ls := rfl
    rw [e]
    simp [lenL, ih]
    omega
theorem rowNs_length (ts : List Row) : (rowNs ts).length = ts.length + lenR ts := by
  induction ts with
  | nil => rfl
  | cons x ts ih =>
    have e : rowNs (x :: ts) = ([(x.l.length : Int)] ++ x.l) ++ rowNs ts := rfl
    rw [e]
    simp [lenR, ih]
    omega
theorem may_all {g : List Sym} {s : Stp} (h : mayB g s = true) : (stepNs s).length ≤ 300 ∧ ∀ n ∈ stepNs s, NumOk n := by
  have ok := may_ok h
  simp only [mayB, Bool.and_eq_true] at h
  have c := cl_facts h.2
  have := c.n1
  have := c.n2
  have := c.n3
  have := c.n4
  constructor
  · have e : (stepNs s).length = 7 + (1 + (litNs s.c.ls).length + (1 + (rowNs s.c.ts).length + (1 + (litNs s.c.cs).length))) := by
      simp [stepNs]; omega
    rw [e, litNs_length, rowNs_length, litNs_length]
    omega
  · intro n hn
    have hn' := hn
    simp only [stepNs, List.mem_append, List.mem_cons, List.not_mem_nil, or_false] at hn'
    rcases hn' with (rfl | rfl | rfl | rfl | rfl | rfl | rfl) | (rfl | hn') | (rfl | hn') | (rfl | hn')
    · exact ok.pr
    · exact ok.pa
    · exact ok.pi
    · exact ok.ps
    · exact ok.pb
    · exact ok.pj
    · exact ok.pt
    · unfold NumOk; omega
    · exact litNs_all ok.ls n hn'
    · unfold NumOk; omega
    · exact rowNs_all ok.ts n hn'
    · unfold NumOk; omega
    · exact litNs_all ok.cs n hn'

/-! ### New memory -/
theorem stepNs_new (s : Stp) : stepNs (newT s) = stepNs s := by
  simp [stepNs, newT, newC, litNs, rowNs, mkRow, List.flatMap_map]
theorem lenL_new (ls : List LitR) : lenL (ls.map fun x => ⟨x.neg, mkRow x.r.l⟩) = lenL ls := by
  induction ls with
  | nil => rfl
  | cons x ls ih =>
    show (mkRow x.r.l).l.length + lenL (ls.map fun x => ⟨x.neg, mkRow x.r.l⟩) = _
    rw [ih]; rfl
theorem lenR_new (ts : List Row) : lenR (ts.map fun x => mkRow x.l) = lenR ts := by
  induction ts with
  | nil => rfl
  | cons x ts ih =>
    show (mkRow x.l).l.length + lenR (ts.map fun x => mkRow x.l) = _
    rw [ih]; rfl
theorem mayB_new (g : List Sym) (s : Stp) : mayB g (newT s) = mayB g s := by
  have h1 : numB (newT s) = numB s := rfl
  have h2 : ∀ ls : List LitR, litsB g (ls.map fun x => ⟨x.neg, mkRow x.r.l⟩) = litsB g ls := fun ls => by
    simp [litsB, List.all_map, Function.comp_def, mkRow]
  have h3 : rowsB g (s.c.ts.map fun x => mkRow x.l) = rowsB g s.c.ts := by
    cases s.c.ts with
    | nil => rfl
    | cons r rs => simp [rowsB, rowsF, List.all_map, Function.comp_def, mkRow]
  unfold mayB
  rw [h1]
  congr 1
  simp only [clB, newT, newC, List.length_map, h2, h3, lenL_new, lenR_new]

/-! ### What is read -/
def readF (g : List Sym) (t : ByteArray) : Option Stp :=
  if (stepF (splitV t blankB)).2.2 = false ∧ mayB g (stepF (splitV t blankB)).1 = true ∧ textOf (stepNs (stepF (splitV t blankB)).1) = t then some (stepF (splitV t blankB)).1 else none
theorem readF_text {g : List Sym} {s : Stp} (h : mayB g s = true) : readF g (textOf (stepNs s)) = some (newT s) := by
  unfold readF
  rw [read_text (may_ok h)]
  rw [if_pos ⟨rfl, by rw [mayB_new]; exact h, by rw [stepNs_new]⟩]
theorem readF_some {g : List Sym} {t : ByteArray} {s : Stp} (h : readF g t = some s) : mayB g s = true ∧ t = textOf (stepNs s) := by
  unfold readF at h
  split at h
  · rename_i h2
    simp only [Option.some.injEq] at h
    subst h
    exact ⟨h2.2.1, h2.2.2.symm⟩
  · cases h
theorem readF_none {g : List Sym} {t : ByteArray} (h : ∀ s, mayB g s = true → t ≠ textOf (stepNs s)) : readF g t = none := by
  cases hr : readF g t with
  | none => rfl
  | some s => exact (h s (readF_some hr).1 (readF_some hr).2).elim

/-! ### Blanks -/
/-- No blank ahead, none behind another (p: one stands before). -/
def okB : Bool → List UInt8 → Bool
  | _, [] => true
  | p, c :: l => if c = 32 then !p && okB true l else okB false l
theorem okB_word : ∀ (w l : List UInt8) (p : Bool), w ≠ [] → (∀ c ∈ w, c ≠ 32) → okB p (w ++ l) = okB false l
  | [], l, p, h, _ => (h rfl).elim
  | [c], l, p, _, h => by simp [okB, h c (by simp)]
  | c :: d :: w, l, p, _, h => by
    have ih := okB_word (d :: w) l false (by simp) (fun x hx => h x (List.mem_cons_of_mem _ hx))
    show (if c = 32 then !p && okB true (d :: w ++ l) else okB false (d :: w ++ l)) = _
    rw [if_neg (h c (by simp))]
    exact ih
theorem okB_tail : ∀ (ns : List Int), okB false (Lib.joinTail [32] (ns.map Lib.itoa)) = true
  | [] => rfl
  | n :: ns => by
    have e : Lib.joinTail [32] ((n :: ns).map Lib.itoa) = 32 :: (Lib.itoa n ++ Lib.joinTail [32] (ns.map Lib.itoa)) := by
      simp [Lib.joinTail]
    rw [e]
    unfold okB
    rw [if_pos rfl, okB_word _ _ _ (itoa_ne n) (itoa_noblank n), okB_tail ns]
    rfl
theorem text_list (n : Int) (ns : List Int) : (textOf (n :: ns)).data.toList = Lib.itoa n ++ Lib.joinTail [32] (ns.map Lib.itoa) := by
  unfold textOf
  rw [show (⟨#[32]⟩ : ByteArray) = blankB from rfl, joinB_list, List.map_cons, List.map_cons, Lib.join_cons, wd_list]
  congr 2
  rw [List.map_map]
  apply List.map_congr_left
  intro m _
  exact wd_list m
theorem okB_text {ns : List Int} (h : ns ≠ []) : okB true (textOf ns).data.toList = true := by
  cases ns with
  | nil => exact (h rfl).elim
  | cons n ns => rw [text_list, okB_word _ _ _ (itoa_ne n) (itoa_noblank n), okB_tail]
/-! ### A nought ahead, a number more -/
theorem text_snoc {ns : List Int} (h : ns ≠ []) (n : Int) : (textOf (ns ++ [n])).data.toList = (textOf ns).data.toList ++ 32 :: Lib.itoa n := by
  cases ns with
  | nil => exact (h rfl).elim
  | cons m ms =>
    rw [List.cons_append, text_list, text_list, List.append_assoc]
    congr 1
    simp [Lib.joinTail]
/-! ### Of the words -/
theorem splitB_size (sep : ByteArray) : ∀ (k : Nat) (s : ByteArray), ∀ w ∈ Lib.splitB sep 0 k s, w.size ≤ s.size
  | 0, s, w, h => by
    rw [Lib.splitB_zero] at h
    simp only [List.mem_singleton] at h
    subst h
    exact Nat.le_refl _
  | k + 1, s, w, h => by
    unfold Lib.splitB at h
    split at h
    · simp only [List.mem_singleton] at h
      subst h
      exact Nat.le_refl _
    · rcases List.mem_cons.1 h with rfl | h
      · rw [ByteArray.size_extract]; omega
      · have := splitB_size sep k _ w h
        rw [ByteArray.size_extract] at this
        omega
theorem splitV_len {s sep : ByteArray} (h : 1 ≤ sep.size) : (splitV s sep).length ≤ s.size + 1 := by
  have h1 := Lib.splitB_all sep h 0 _ s rfl
  have h2 := Lib.countB_le sep h s.size s (Nat.le_refl _)
  unfold splitV
  omega
theorem stepF_eq {ws : List ByteArray} {x1 x2 x3 x4 x5 x6 x7 : Int × List ByteArray × Bool} {y1 y3 : List LitR × List ByteArray × Bool} {y2 : List Row × List ByteArray × Bool} (h1 : numF ws false = x1) (h2 : numF x1.2.1 x1.2.2 = x2) (h3 : numF x2.2.1 x2.2.2 = x3) (h4 : numF x3.2.1 x3.2.2 = x4) (h5 : numF x4.2.1 x4.2.2 = x5) (h6 : numF x5.2.1 x5.2.2 = x6) (h7 : numF x6.2.1 x6.2.2 = x7) (g1 : litsF x7.2.1 x7.2.2 = y1) (g2 : tupsF y1.2.1 y1.2.2 = y2) (g3 : litsF y2.2.1 y2.2.2 = y3) :
    stepF ws = (⟨x1.1, x2.1, x3.1, x4.1, x5.1, x6.1, x7.1, ⟨y1.1.isEmpty, y1.1, [], y2.1.isEmpty, y2.1, [], y3.1.isEmpty, y3.1, []⟩⟩, y3.2.1, y3.2.2) := by
  subst h1; subst h2; subst h3; subst h4; subst h5; subst h6; subst h7; subst g1; subst g2; subst g3
  rfl
end Go.Qu

/- Steps: Write, Read. For every input; conditions: the text is not longer than the library's bound. -/
set_option linter.unusedVariables false
set_option linter.unusedSimpArgs false
set_option maxRecDepth 100000
namespace Go.Proofs.YtjoibdmiolcodaaGreatDoor.Ab
open Go Go.Ab Go.Qu Go.Proofs
attribute [local simp] and_assoc
theorem may_small {g : List Sym} {s : Stp} (h : mayB g s = true) : Small s := by
  have h1 := may_all h
  exact ⟨by have := h1.1; omega, h1.2⟩
def txtF (g : List Sym) (s : Stp) : ByteArray := if mayB g s = true then textOf (stepNs s) else ⟨#[]⟩
def errF (g : List Sym) (s : Stp) : Int := if mayB g s = true then 0 else 1700
theorem w_swrite (z : Bool) (g : List Sym) (e : List D) (s : Stp) : C 6 [iG z g e, iSt s] = some (.tup [.d (.str (txtF g s)), iI (errF g s)], [iG z g e, iSt s]) := by
  refine wfn (lk := []) rfl rfl (fnW_way (q6 _ _ z (syms g) e s.r s.a s.i s.s s.b s.j s.t s.c.lz (lits s.c.ls) s.c.le s.c.tz (rws s.c.ts) s.c.te s.c.cz (lits s.c.cs) s.c.ce _) ?_)
  refine ⟨_, _, _, w_stepmay z g e s, ?_⟩
  unfold txtF errF
  cases h : mayB g s with
  | true =>
    rw [condW_tt]
    exact ⟨_, _, w_write (may_small h), by simp⟩
  | false => simp
theorem w_split {t : ByteArray} (h : t.size < 4294967281) : C 25 [.d (.str t), .d (.str ⟨#[32]⟩)] = some (.d (.sl 1 false ((splitV t blankB).map .str) []), [.d (.str t), .d (.str ⟨#[32]⟩)]) := by
  refine W_prim (p := splitP) (by rfl) ?_
  unfold splitP
  dsimp only
  rw [if_pos ⟨h, by decide⟩]
  rfl
theorem ws_split {t : ByteArray} (h : t.size < 4294967281) : WsOk (splitV t blankB) := by
  refine ⟨?_, fun w hw => ?_⟩
  · have := splitV_len (s := t) (sep := blankB) (by decide)
    omega
  · have := splitB_size blankB _ t w hw
    omega
/-- What Read hands back. -/
def noStep : D := .agg [.int .i64 0, .int .i64 0, .int .i64 0, .int .i64 0, .int .i64 0, .int .i64 0, .int .i64 0, .sl 2 true [] [], .sl 1 true [] [], .sl 2 true [] []]
def readI (g : List Sym) (t : ByteArray) : IV := match readF g t with
  | none => .tup [.d noStep, iI 1700]
  | some s => .tup [.agg [iI s.r, iI s.a, iI s.i, iI s.s, iI s.b, iI s.j, iI s.t, .own s.c.lz 55 2 (lits s.c.ls), .own s.c.tz 48 1 (rws s.c.ts), .own s.c.cz 55 2 (lits s.c.cs)], iI 0]
theorem toList_beq (a b : ByteArray) : (a.toList == b.toList) = decide (a = b) := by
  by_cases h : a = b
  · subst h; simp
  · have : ¬ a.toList = b.toList := fun h2 => h (by
      rw [ByteArray.toList_eq, ByteArray.toList_eq] at h2
      exact ba_ext h2)
    simp [h, this]
theorem w_read (z : Bool) (g : List Sym) (e : List D) {t : ByteArray} (ht : t.size < 4294967281) : C 13 [iG z g e, .d (.str t)] = some (readI g t, [iG z g e, .d (.str t)]) := by
  refine wfn (lk := []) rfl rfl (fnW_way (q13 _ _ z (syms g) e t _) ?_)
  refine ⟨_, _, _, _, _, w_split ht, ?_⟩
  have k0 := ws_split ht
  unfold readI readF
  generalize splitV t blankB = ws at k0 ⊢
  obtain ⟨x1, h1⟩ : ∃ x, numF ws false = x := ⟨_, rfl⟩
  have c1 := w_rnum k0 false
  have k1 : WsOk x1.2.1 := by rw [← h1]; exact k0.sub (numF_len _ _) (numF_sub _ _)
  rw [h1] at c1
  obtain ⟨x2, h2⟩ : ∃ x, numF x1.2.1 x1.2.2 = x := ⟨_, rfl⟩
  have c2 := w_rnum k1 x1.2.2
  have k2 : WsOk x2.2.1 := by rw [← h2]; exact k1.sub (numF_len _ _) (numF_sub _ _)
  rw [h2] at c2
  obtain ⟨x3, h3⟩ : ∃ x, numF x2.2.1 x2.2.2 = x := ⟨_, rfl⟩
  have c3 := w_rnum k2 x2.2.2
  have k3 : WsOk x3.2.1 := by rw [← h3]; exact k2.sub (numF_len _ _) (numF_sub _ _)
  rw [h3] at c3
  obtain ⟨x4, h4⟩ : ∃ x, numF x3.2.1 x3.2.2 = x := ⟨_, rfl⟩
  have c4 := w_rnum k3 x3.2.2
  have k4 : WsOk x4.2.1 := by rw [← h4]; exact k3.sub (numF_len _ _) (numF_sub _ _)
  rw [h4] at c4
  obtain ⟨x5, h5⟩ : ∃ x, numF x4.2.1 x4.2.2 = x := ⟨_, rfl⟩
  have c5 := w_rnum k4 x4.2.2
  have k5 : WsOk x5.2.1 := by rw [← h5]; exact k4.sub (numF_len _ _) (numF_sub _ _)
  rw [h5] at c5
  obtain ⟨x6, h6⟩ : ∃ x, numF x5.2.1 x5.2.2 = x := ⟨_, rfl⟩
  have c6 := w_rnum k5 x5.2.2
  have k6 : WsOk x6.2.1 := by rw [← h6]; exact k5.sub (numF_len _ _) (numF_sub _ _)
  rw [h6] at c6
  obtain ⟨x7, h7⟩ : ∃ x, numF x6.2.1 x6.2.2 = x := ⟨_, rfl⟩
  have c7 := w_rnum k6 x6.2.2
  have k7 : WsOk x7.2.1 := by rw [← h7]; exact k6.sub (numF_len _ _) (numF_sub _ _)
  rw [h7] at c7
  obtain ⟨y1, g1⟩ : ∃ x, litsF x7.2.1 x7.2.2 = x := ⟨_, rfl⟩
  have d1 := w_rlits k7 x7.2.2
  have k8 : WsOk y1.2.1 := by rw [← g1]; exact k7.sub (litsF_len _ _) (litsF_sub _ _)
  rw [g1] at d1
  obtain ⟨y2, g2⟩ : ∃ x, tupsF y1.2.1 y1.2.2 = x := ⟨_, rfl⟩
  have d2 := w_tuples k8 y1.2.2
  have k9 : WsOk y2.2.1 := by rw [← g2]; exact k8.sub (tupsF_len _ _) (tupsF_sub _ _)
  rw [g2] at d2
  obtain ⟨y3, g3⟩ : ∃ x, litsF y2.2.1 y2.2.2 = x := ⟨_, rfl⟩
  have d3 := w_rlits k9 y2.2.2
  rw [g3] at d3
  rw [stepF_eq h1 h2 h3 h4 h5 h6 h7 g1 g2 g3]
  refine ⟨_, _, _, _, _, c1, ?_⟩
  refine ⟨_, _, _, _, _, c2, ?_⟩
  refine ⟨_, _, _, _, _, c3, ?_⟩
  refine ⟨_, _, _, _, _, c4, ?_⟩
  refine ⟨_, _, _, _, _, c5, ?_⟩
  refine ⟨_, _, _, _, _, c6, ?_⟩
  refine ⟨_, _, _, _, _, c7, ?_⟩
  refine ⟨_, _, _, _, _, _, d1, ?_⟩
  refine ⟨_, _, _, _, _, _, d2, ?_⟩
  refine ⟨_, _, _, _, _, _, d3, ?_⟩
  clear c1 c2 c3 c4 c5 c6 c7 d1 d2 d3
  obtain ⟨s, hs⟩ : ∃ s : Stp, s = ⟨x1.1, x2.1, x3.1, x4.1, x5.1, x6.1, x7.1, ⟨y1.1.isEmpty, y1.1, [], y2.1.isEmpty, y2.1, [], y3.1.isEmpty, y3.1, []⟩⟩ := ⟨_, rfl⟩
  have hm := w_stepmay z g e s
  have hw := fun h => w_write (s := s) (may_small (g := g) h)
  dsimp only
  rw [← hs]
  cases hb : y3.2.2 with
  | true =>
    rw [condW_tt, if_neg (by simp)]
    rfl
  | false =>
    rw [condW_ff]
    rw [hs] at hm
    refine ⟨_, _, _, hm, ?_⟩
    rw [← hs]
    cases hq : mayB g s with
    | false =>
      rw [condW_ff, if_neg (by simp)]
      rfl
    | true =>
      rw [condW_tt]
      have hw := hw hq
      rw [hs] at hw
      refine ⟨_, _, hw, ?_⟩
      rw [← hs, toList_beq]
      by_cases ht : textOf (stepNs s) = t
      · rw [if_pos ⟨rfl, rfl, ht⟩, decide_eq_true ht]
        subst hs
        rfl
      · rw [if_neg (fun h => ht h.2.2), decide_eq_false ht]
        rfl
end Go.Proofs.YtjoibdmiolcodaaGreatDoor.Ab

/- A function's value from a table of what its calls tell. No condition. -/
set_option linter.unusedVariables false
set_option linter.unusedSimpArgs false
namespace Go.Ab
open Go
mutual
/-- Are two data the same? (Told of some kinds alone.) -/
def D.same : D → D → Bool
  | .int .i64 n, .int .i64 m => decide (n = m)
  | .bool a, .bool b => a == b
  | .str s, .str t => decide (s.data.toList = t.data.toList)
  | .sl a z xs e, .sl b y us f => decide (a = b) && (z == y && (D.sames xs us && D.sames e f))
  | .agg xs, .agg us => D.sames xs us
  | _, _ => false
def D.sames : List D → List D → Bool
  | [], [] => true
  | x :: xs, u :: us => D.same x u && D.sames xs us
  | _, _ => false
end
mutual
theorem D.same_eq : ∀ {x u : D}, D.same x u = true → x = u
  | .int .i64 n, .int .i64 m, h => by
    unfold D.same at h
    rw [of_decide_eq_true h]
  | .bool a, .bool b, h => by
    unfold D.same at h
    rw [eq_of_beq h]
  | .str s, .str t, h => by
    unfold D.same at h
    have h1 := of_decide_eq_true h
    cases s with
    | mk s =>
      cases t with
      | mk t =>
        cases s with
        | mk s =>
          cases t with
          | mk t =>
            have h2 : s = t := h1
            rw [h2]
  | .sl a z xs e, .sl b y us f, h => by
    unfold D.same at h
    simp only [Bool.and_eq_true, decide_eq_true_eq, beq_iff_eq] at h
    obtain ⟨h1, h2, h3, h4⟩ := h
    rw [h1, h2, D.sames_eq h3, D.sames_eq h4]
  | .agg xs, .agg us, h => by
    unfold D.same at h
    rw [D.sames_eq h]
theorem D.sames_eq : ∀ {xs us : List D}, D.sames xs us = true → xs = us
  | [], [], h => rfl
  | x :: xs, u :: us, h => by
    unfold D.sames at h
    rw [Bool.and_eq_true] at h
    rw [D.same_eq h.1, D.sames_eq h.2]
  | [], u :: us, h => by unfold D.sames at h; cases h
  | x :: xs, [], h => by unfold D.sames at h; cases h
end
def sameArgs : List IV → List IV → Bool
  | [], [] => true
  | .d x :: xs, .d u :: us => D.same x u && sameArgs xs us
  | _, _ => false
theorem sameArgs_eq : ∀ {xs us : List IV}, sameArgs xs us = true → xs = us
  | [], [], _ => rfl
  | .d x :: xs, .d u :: us, h => by
    unfold sameArgs at h
    rw [Bool.and_eq_true] at h
    rw [D.same_eq h.1, sameArgs_eq h.2]
abbrev Tbl := List (FuncId × List IV × (IV × List IV))
def tblC : Tbl → Caller
  | [], _, _ => none
  | e :: t, f, args => if e.1 = f ∧ sameArgs e.2.1 args = true then some e.2.2 else tblC t f args
theorem tbl_le {C : Caller} : ∀ {t : Tbl}, (∀ e ∈ t, C e.1 e.2.1 = some e.2.2) → CLe (tblC t) C
  | [], _ => fun f args r h => by unfold tblC at h; cases h
  | e :: t, ht => fun f args r h => by
    unfold tblC at h
    split at h
    · rename_i hh
      have h2 := ht e (by simp)
      rw [hh.1, sameArgs_eq hh.2] at h2
      rw [h2]; exact h
    · exact tbl_le (fun e he => ht e (by simp [he])) f args r h
theorem tbl_up {F : Fx} : ∀ {t : Tbl}, (∀ e ∈ t, W F e.1 e.2.1 = some e.2.2) → ∃ n, ∀ e ∈ t, evF F n e.1 e.2.1 = some e.2.2
  | [], _ => ⟨0, by simp⟩
  | e :: t, ht => by
    obtain ⟨n, hn⟩ := tbl_up (t := t) (fun e he => ht e (by simp [he]))
    obtain ⟨m, hm⟩ := lim_up (ht e (by simp))
    refine ⟨n + m, fun x hx => ?_⟩
    rcases List.mem_cons.1 hx with rfl | hx
    · exact evF_from hm (by omega)
    · exact evF_from (hn x hx) (by omega)
theorem evFn_from {F : Fx} {C : Caller} {d : FnD} {args : List IV} {r : IV × List IV} {n : Nat} (h : evFn F C n d args = some r) : ∀ k, evFn F C (n + k) d args = some r
  | 0 => h
  | k + 1 => evFn_le (CLe.refl C) (evFn_from h k)
theorem W_tbl {F : Fx} {f : FuncId} {d : FnD} {args : List IV} {r : IV × List IV} {n : Nat} (t : Tbl) (hp : F.prim f = none) (hc : F.code f = some d) (ht : ∀ e ∈ t, W F e.1 e.2.1 = some e.2.2) (h : evFn F (tblC t) n d args = some r) : W F f args = some r := by
  obtain ⟨m, hm⟩ := tbl_up ht
  have h1 : CLe (tblC t) (evF F (m + n + 1)) := tbl_le (fun e he => evF_from (hm e he) (by omega))
  have h2 := evFn_from (evFn_le h1 h) m
  rw [show n + 1 + m = m + n + 1 by omega] at h2
  refine lim_of (n := m + n + 1 + 1) (fun n r h => evF_le n _ _ _ h) ?_
  show (match F.prim f with | some p => p args | none => match F.code f with | some fn => evFn F (evF F (m + n + 1)) (m + n + 1) fn args | none => none) = _
  rw [hp, hc]
  exact h2
end Go.Ab

/- The words that chapter 17's laws ask first: true. No condition. -/
set_option linter.unusedVariables false
set_option linter.unusedSimpArgs false
set_option maxRecDepth 100000
namespace Go.Proofs.YtjoibdmiolcodaaGreatDoor.Ab
open Go Go.Ab Go.Qu Go.Proofs
def awG : List Sym := [⟨⟨#[61]⟩, 0, 2, 1⟩, ⟨⟨#[97]⟩, 1, 0, 1⟩, ⟨⟨#[98]⟩, 1, 0, 2⟩, ⟨⟨#[102]⟩, 1, 1, 1⟩, ⟨⟨#[103]⟩, 1, 2, 3⟩, ⟨⟨#[112]⟩, 0, 1, 1⟩, ⟨⟨#[114]⟩, 0, 2, 2⟩]
def awS : Stp := ⟨6, 3, 0, 0, 12, 0, 0, ⟨false, [⟨true, ⟨false, [5, -1], []⟩⟩], [], false, [⟨false, [1, -1], []⟩], [], true, [], []⟩⟩
def awB : Stp := ⟨8, 0, 0, 0, 0, 0, 0, ⟨true, [], [], true, [], [], true, [], []⟩⟩
theorem awS_may : mayB awG awS = true := by decide +kernel
theorem awB_may : mayB awG awB = false := by decide +kernel
theorem itoa_small {n : Nat} (h : n < 10) : Lib.itoa (n : Int) = [UInt8.ofNat (48 + n)] := by
  unfold Lib.itoa
  rw [if_neg (by omega), Int.toNat_natCast, Lib.decDigits, dif_pos h]
theorem itoa_12 : Lib.itoa 12 = [49, 50] := by
  unfold Lib.itoa
  rw [if_neg (by decide), show (12 : Int).toNat = 12 from rfl, Lib.decDigits, dif_neg (by decide), Lib.decDigits, dif_pos (by decide)]
  rfl
theorem itoa_m1 : Lib.itoa (-1) = [45, 49] := by
  unfold Lib.itoa
  rw [if_pos (by decide), show (-1 : Int).natAbs = 1 from rfl, Lib.decDigits, dif_pos (by decide)]
  rfl
def awT : ByteArray := ⟨#[54, 32, 51, 32, 48, 32, 48, 32, 49, 50, 32, 48, 32, 48, 32, 49, 32, 49, 32, 50, 32, 53, 32, 45, 49, 32, 49, 32, 50, 32, 49, 32, 45, 49, 32, 48]⟩
def awT2 : ByteArray := ⟨#[54, 32, 51, 32, 48, 32, 48, 32, 49, 50, 32, 48, 32, 48, 32, 49, 32, 49, 32, 50, 32, 53, 32, 45, 49, 32, 49, 32, 50, 32, 49, 32, 45, 49, 32, 48, 32]⟩
theorem awT_text : textOf (stepNs awS) = awT := by
  have e : stepNs awS = [6, 3, 0, 0, 12, 0, 0, 1, 1, 2, 5, -1, 1, 2, 1, -1, 0] := by decide +kernel
  have i0 : Lib.itoa 0 = [48] := itoa_small (n := 0) (by decide)
  have i1 : Lib.itoa 1 = [49] := itoa_small (n := 1) (by decide)
  have i2 : Lib.itoa 2 = [50] := itoa_small (n := 2) (by decide)
  have i3 : Lib.itoa 3 = [51] := itoa_small (n := 3) (by decide)
  have i5 : Lib.itoa 5 = [53] := itoa_small (n := 5) (by decide)
  have i6 : Lib.itoa 6 = [54] := itoa_small (n := 6) (by decide)
  refine ba_ext ?_
  rw [e]
  unfold textOf
  rw [show (⟨#[32]⟩ : ByteArray) = blankB from rfl, joinB_list]
  simp only [List.map_cons, List.map_nil, wd_list, i0, i1, i2, i3, i5, i6, itoa_12, itoa_m1]
  rfl
theorem awT2_none : readF awG awT2 = none := by
  refine readF_none fun s _ e => ?_
  have h := text_snoc (stepNs_ne awS) 0
  have h1 : okB true (awT2.data.toList ++ [32]) = false := by decide +kernel
  have h2 : (textOf (stepNs s ++ [0])).data.toList = (textOf (stepNs s)).data.toList ++ 32 :: Lib.itoa 0 := text_snoc (stepNs_ne s) 0
  have h3 : okB true (textOf (stepNs s ++ [0])).data.toList = true := okB_text (by simp)
  rw [h2, ← e, show Lib.itoa 0 = [48] from itoa_small (n := 0) (by decide)] at h3
  exact absurd h3 (by decide +kernel)
theorem aw_write : C 6 [iG false awG [], iSt awS] = some (.tup [.d (.str awT), iI 0], [iG false awG [], iSt awS]) := by
  have h := w_swrite false awG [] awS
  unfold txtF errF at h
  rw [awS_may, if_pos rfl, if_pos rfl, awT_text] at h
  exact h
theorem aw_bad : C 6 [iG false awG [], iSt awB] = some (.tup [.d (.str ⟨#[]⟩), iI 1700], [iG false awG [], iSt awB]) := by
  have h := w_swrite false awG [] awB
  unfold txtF errF at h
  rw [awB_may, if_neg (by decide), if_neg (by decide)] at h
  exact h
theorem aw_read : C 13 [iG false awG [], .d (.str awT)] = some (.tup [.agg [iI 6, iI 3, iI 0, iI 0, iI 12, iI 0, iI 0, .own false 55 2 (lits awS.c.ls), .own false 48 1 (rws awS.c.ts), .own true 55 2 []], iI 0], [iG false awG [], .d (.str awT)]) := by
  have h := w_read false awG [] (t := awT) (by decide)
  unfold readI at h
  rw [← awT_text, readF_text awS_may] at h
  rw [← awT_text]
  exact h
theorem aw_read2 : C 13 [iG false awG [], .d (.str awT2)] = some (.tup [.d noStep, iI 1700], [iG false awG [], .d (.str awT2)]) := by
  have h := w_read false awG [] (t := awT2) (by decide)
  unfold readI at h
  rw [awT2_none] at h
  exact h
theorem aw_in : ClIn awS.c := ⟨⟨by simp [awS], by simp [awS, Len]⟩, by simp [awS], by simp [awS, Len], ⟨by simp [awS], by simp [awS]⟩⟩
theorem aw_same : C 15 [iSt awS, iSt awS] = some (iB true, [iSt awS, iSt awS]) := by
  have h := w_samestep aw_in awS
  rw [decide_eq_true rfl] at h
  exact h
theorem aw_may : C 9 [iG false awG [], iSt awS] = some (iB true, [iG false awG [], iSt awS]) := by
  have h := w_stepmay false awG [] awS
  rw [awS_may] at h
  exact h
theorem aw_words : C 24 [] = some (.own false 84 4 (syms awG), []) := W_ev (n := 60) (by kernel_rfl)
def awTbl : Tbl := [(24, [], (.own false 84 4 (syms awG), [])),
  (6, [iG false awG [], iSt awS], (.tup [.d (.str awT), iI 0], [iG false awG [], iSt awS])),
  (6, [iG false awG [], iSt awB], (.tup [.d (.str ⟨#[]⟩), iI 1700], [iG false awG [], iSt awB])),
  (13, [iG false awG [], .d (.str awT)], (.tup [.agg [iI 6, iI 3, iI 0, iI 0, iI 12, iI 0, iI 0, .own false 55 2 (lits awS.c.ls), .own false 48 1 (rws awS.c.ts), .own true 55 2 []], iI 0], [iG false awG [], .d (.str awT)])),
  (13, [iG false awG [], .d (.str awT2)], (.tup [.d noStep, iI 1700], [iG false awG [], .d (.str awT2)])),
  (10, [iI 0], (iI 0, [iI 0])), (10, [iI 1700], (iI 1700, [iI 1700])),
  (15, [iSt awS, iSt awS], (iB true, [iSt awS, iSt awS])),
  (9, [iG false awG [], iSt awS], (iB true, [iG false awG [], iSt awS]))]
theorem awTbl_ok : ∀ e ∈ awTbl, C e.1 e.2.1 = some e.2.2 := by
  intro e he
  simp only [awTbl, List.mem_cons, List.not_mem_nil, or_false] at he
  rcases he with rfl | rfl | rfl | rfl | rfl | rfl | rfl | rfl | rfl
  · exact aw_words
  · exact aw_write
  · exact aw_bad
  · exact aw_read
  · exact aw_read2
  · exact w_errnum 0
  · exact w_errnum 1700
  · exact aw_same
  · exact aw_may
theorem w_awake : C 12 [] = some (iB true, []) := W_tbl (n := 60) awTbl rfl rfl awTbl_ok (by kernel_rfl)
end Go.Proofs.YtjoibdmiolcodaaGreatDoor.Ab

/- Steps: the reference's numbers, its text; copies. For every input; no condition. -/
set_option linter.unusedVariables false
set_option linter.unusedSimpArgs false
set_option maxRecDepth 100000
namespace Go.Proofs.YtjoibdmiolcodaaGreatDoor.Ab
open Go Go.Ab Go.Qu Go.Proofs
attribute [local simp] and_assoc
theorem w_fmay (z : Bool) (g : List Sym) (e : List D) (s : Stp) : C 8 [iG z g e, iSt s] = some (iB (mayB g s), [iG z g e, iSt s]) := by
  refine wfn (lk := []) rfl rfl (fnW_way (q8 _ _ z (syms g) e s.r s.a s.i s.s s.b s.j s.t s.c.lz (lits s.c.ls) s.c.le s.c.tz (rws s.c.ts) s.c.te s.c.cz (lits s.c.cs) s.c.ce _) ?_)
  have hc := w_rclmay z g e s.c
  by_cases h1 : s.r < 0
  · have h : mayB g s = false := by simp [mayB, numB]; omega
    rw [h]; exact condW_t (decide_eq_true h1) rfl
  refine condW_f (decide_eq_false h1) ?_
  by_cases h2 : s.r > 7
  · have h : mayB g s = false := by simp [mayB, numB]; omega
    rw [h]; exact condW_t (decide_eq_true h2) rfl
  refine condW_f (decide_eq_false h2) ?_
  by_cases h3 : s.a < -1
  · have h : mayB g s = false := by simp [mayB, numB]; omega
    rw [h]; exact condW_t (decide_eq_true h3) rfl
  refine condW_f (decide_eq_false h3) ?_
  by_cases h4 : s.a ≥ 200
  · have h : mayB g s = false := by simp [mayB, numB]; omega
    rw [h]; exact condW_t (decide_eq_true h4) rfl
  refine condW_f (decide_eq_false h4) ?_
  by_cases h5 : s.b < -1
  · have h : mayB g s = false := by simp [mayB, numB]; omega
    rw [h]; exact condW_t (decide_eq_true h5) rfl
  refine condW_f (decide_eq_false h5) ?_
  by_cases h6 : s.b ≥ 200
  · have h : mayB g s = false := by simp [mayB, numB]; omega
    rw [h]; exact condW_t (decide_eq_true h6) rfl
  refine condW_f (decide_eq_false h6) ?_
  by_cases h7 : s.i < 0
  · have h : mayB g s = false := by simp [mayB, numB]; omega
    rw [h]; exact condW_t (decide_eq_true h7) rfl
  refine condW_f (decide_eq_false h7) ?_
  by_cases h8 : s.i ≥ 5
  · have h : mayB g s = false := by simp [mayB, numB]; omega
    rw [h]; exact condW_t (decide_eq_true h8) rfl
  refine condW_f (decide_eq_false h8) ?_
  by_cases h9 : s.j < 0
  · have h : mayB g s = false := by simp [mayB, numB]; omega
    rw [h]; exact condW_t (decide_eq_true h9) rfl
  refine condW_f (decide_eq_false h9) ?_
  by_cases h10 : s.j ≥ 5
  · have h : mayB g s = false := by simp [mayB, numB]; omega
    rw [h]; exact condW_t (decide_eq_true h10) rfl
  refine condW_f (decide_eq_false h10) ?_
  by_cases h11 : s.s < 0
  · have h : mayB g s = false := by simp [mayB, numB]; omega
    rw [h]; exact condW_t (decide_eq_true h11) rfl
  refine condW_f (decide_eq_false h11) ?_
  by_cases h12 : s.s > 1
  · have h : mayB g s = false := by simp [mayB, numB]; omega
    rw [h]; exact condW_t (decide_eq_true h12) rfl
  refine condW_f (decide_eq_false h12) ?_
  by_cases h13 : s.t < 0
  · have h : mayB g s = false := by simp [mayB, numB]; omega
    rw [h]; exact condW_t (decide_eq_true h13) rfl
  refine condW_f (decide_eq_false h13) ?_
  by_cases h14 : s.t > 48
  · have h : mayB g s = false := by simp [mayB, numB]; omega
    rw [h]; exact condW_t (decide_eq_true h14) rfl
  refine condW_f (decide_eq_false h14) ?_
  have h : mayB g s = clB g s.c := by
    have hn : numB s = true := by simp [numB]; omega
    simp [mayB, hn]
  rw [h]
  refine ⟨_, _, _, hc, ?_⟩
  cases clB g s.c
  · exact condW_f rfl rfl
  · exact condW_t rfl rfl
theorem wrapu8 {n : Nat} (h : n < 10) : IntKind.wrap .u8 (IntKind.wrap .i64 (48 + (n : Int))) = ((48 + n : Nat) : Int) := by
  rw [Go.Ab.wr _ (by omega) (by omega)]
  simp [IntKind.wrap, IntKind.bits, IntKind.signed]
  omega
theorem strOf_dig {n : Nat} : strOfNums [((48 + n : Nat) : Int)] = ⟨#[UInt8.ofNat (48 + n)]⟩ := rfl
def dd (n : Nat) : ByteArray := ⟨(Lib.decDigits n).toArray⟩
theorem dd_list (n : Nat) : (dd n).data.toList = Lib.decDigits n := by simp [dd]
theorem dd_size (n : Nat) : (dd n).size = (Lib.decDigits n).length := by rw [← ba_len, dd_list]
theorem w_dec : ∀ (n : Nat), n < 1000000000 → C 20 [iI n] = some (.d (.str (dd n)), [iI n]) := by
  intro n
  induction n using Nat.strongRecOn with
  | ind n ih =>
    intro hn
    refine wfn (lk := []) rfl rfl (fnW_way (q20 _ _ n _) ?_)
    refine condW_f (decide_eq_false (by omega)) ?_
    by_cases h : n < 10
    · refine condW_t (decide_eq_true (by omega)) ?_
      have e : dd n = ⟨#[UInt8.ofNat (48 + n)]⟩ := by unfold dd; rw [Lib.decDigits, dif_pos h]
      rw [wrapu8 h, strOf_dig, e]
    · refine condW_f (decide_eq_false (by omega)) ?_
      have hd : IntKind.wrap .i64 (Int.tdiv (n : Int) 10) = ((n / 10 : Nat) : Int) := by
        rw [Go.Ab.wr _ (by rw [Int.tdiv_eq_ediv_of_nonneg (by omega)]; omega) (by rw [Int.tdiv_eq_ediv_of_nonneg (by omega)]; omega), Int.tdiv_eq_ediv_of_nonneg (by omega)]
        omega
      have hm : Int.tmod (n : Int) 10 = ((n % 10 : Nat) : Int) := by
        rw [Int.tmod_eq_emod_of_nonneg (by omega)]; omega
      have i1 := ih (n / 10) (by omega) (by omega)
      have hl := itoa_len (n := ((n / 10 : Nat) : Int)) (by omega) (by omega)
      have hl2 : (dd (n / 10)).size ≤ 10 := by
        rw [dd_size]
        unfold Lib.itoa at hl
        rw [if_neg (by omega), Int.toNat_natCast] at hl
        exact hl
      rw [hd, hm, wrapu8 (show n % 10 < 10 by omega), strOf_dig]
      have e : dd n = dd (n / 10) ++ ⟨#[UInt8.ofNat (48 + n % 10)]⟩ := ba_ext (by
        rw [ByteArray.data_append, Array.toList_append, dd_list, dd_list, Lib.decDigits, dif_neg h])
      rw [e]
      have z1 : (⟨#[UInt8.ofNat (48 + n % 10)]⟩ : ByteArray).size = 1 := rfl
      exact ⟨_, _, i1, condW_t (decide_eq_true (by rw [z1]; omega)) rfl⟩
theorem w_decimal {n : Int} (h : NumOk n) : C 20 [iI n] = some (.d (.str (wd n)), [iI n]) := by
  unfold NumOk at h
  by_cases h0 : n < 0
  · obtain ⟨m, rfl⟩ : ∃ m : Nat, n = -(m : Int) := ⟨n.natAbs, by omega⟩
    refine wfn (lk := []) rfl rfl (fnW_way (q20 _ _ (-(m : Int)) _) ?_)
    refine condW_t (decide_eq_true h0) ?_
    have hw : IntKind.wrap .i64 (0 - -(m : Int)) = (m : Int) := by rw [Go.Ab.wr _ (by omega) (by omega)]; omega
    rw [hw]
    have hl := itoa_len (n := (m : Int)) (by omega) (by omega)
    have hl2 : (dd m).size ≤ 10 := by
      rw [dd_size]
      unfold Lib.itoa at hl
      rw [if_neg (by omega), Int.toNat_natCast] at hl
      exact hl
    have e : wd (-(m : Int)) = ⟨#[45]⟩ ++ dd m := ba_ext (by
      rw [ByteArray.data_append, Array.toList_append, dd_list, wd_list]
      unfold Lib.itoa
      rw [if_pos h0, show (-(m : Int)).natAbs = m by omega]
      rfl)
    rw [e]
    have z1 : (⟨#[45]⟩ : ByteArray).size = 1 := rfl
    exact ⟨_, _, w_dec m (by omega), condW_t (decide_eq_true (by rw [z1]; omega)) rfl⟩
  · obtain ⟨m, rfl⟩ : ∃ m : Nat, n = (m : Int) := ⟨n.toNat, by omega⟩
    have e : wd (m : Int) = dd m := ba_ext (by
      rw [dd_list, wd_list]
      unfold Lib.itoa
      rw [if_neg h0, Int.toNat_natCast])
    rw [e]
    exact w_dec m (by omega)
/-! ### Numbers -/
theorem w_numbers (z : Bool) (xs : List Int) {l : List Int} (hn : xs.length + l.length ≤ 1000000) (z' : Bool) (e : List D) : C 19 [.own z 3 1 (ints xs), iS z' l e] = some (.own false 3 1 (ints (xs ++ ([(l.length : Int)] ++ l))), [.dead, iS z' l e]) := by
  refine wfn (lk := []) rfl rfl (fnW_way (q19 _ _ z (ints xs) z' (ints l) e _) ?_)
  have k1 : xs.length + 1 ≤ 9223372036854775807 := by omega
  have k2 : (xs.length + 1) * 8 ≤ 140737488355328 := by omega
  have k3 : xs.length + 1 + l.length ≤ 9223372036854775807 := by omega
  have k4 : (xs.length + 1 + l.length) * 8 ≤ 140737488355328 := by omega
  simp [ints_len, k1, k2, k3, k4, ints]
theorem w_flits (z : Bool) (xs : List Int) {ls : List LitR} (hn : xs.length + 1 + (litNs ls).length ≤ 1000000) (z' : Bool) (e : List D) : C 18 [.own z 3 1 (ints xs), iL z' ls e] = some (.own false 3 1 (ints (xs ++ ([(ls.length : Int)] ++ litNs ls))), [.dead, iL z' ls e]) := by
  refine wfn (lk := []) rfl rfl (fnW_way (q18 _ _ z (ints xs) z' (lits ls) e _) ?_)
  have hl := litNs_len ls
  have h1 := blk_fun (F := F) (d := d18) (lk := []) (p := [1,1,0,1,0,0]) (p0 := [1,1,0,1]) (id := 0) (by kernel_rfl) (st := fun (i : Nat) => [(0, .own false 3 1 (ints (xs ++ ([(ls.length : Int)] ++ litNs (ls.take i))))), (1, iL z' ls e), (5, iI i)]) (I := fun i => i ≤ ls.length) (μ := fun i => ls.length - i)
    (res := fun _ => .norm [(0, .own false 3 1 (ints (xs ++ ([(ls.length : Int)] ++ litNs ls)))), (1, iL z' ls e), (5, iI ls.length)])
    (fun i hi => by
      by_cases h : i < ls.length
      · obtain ⟨l, hl1⟩ := at_lt h
        have e1 : ls.take (i + 1) = ls.take i ++ [l] := by rw [List.take_add_one, hl1]; rfl
        have hb := litNs_take ls (i + 1)
        rw [e1, litNs_snoc] at hb
        simp only [List.length_append, List.length_cons, List.length_nil] at hb
        refine .go (i + 1) (wpQ_way (q18_l0a _ _ false (ints (xs ++ ([(ls.length : Int)] ++ litNs (ls.take i)))) z' (lits ls) e i _) ?_) h (by omega) rfl
        have g0 : ((i : Int) < (lits ls).length) := by rw [lits_len]; omega
        have g1 : ((xs ++ ([(ls.length : Int)] ++ litNs (ls.take i))).length : Nat) + l.r.l.length + 2 ≤ 1000000 := by
          simp only [List.length_append, List.length_cons, List.length_nil]
          omega
        generalize hA : xs ++ ([(ls.length : Int)] ++ litNs (ls.take i)) = A at g1 ⊢
        have e2 : xs ++ ([(ls.length : Int)] ++ litNs (ls.take (i + 1))) = (A ++ [if l.neg then 1 else 0]) ++ ([(l.r.l.length : Int)] ++ l.r.l) := by
          rw [e1, litNs_snoc, ← hA]; simp
        rw [e2]
        have k5 : (ints A).length + (0 + 1) ≤ 9223372036854775807 := by rw [ints_len]; omega
        have k6 : ((ints A).length + (0 + 1)) * 8 ≤ 140737488355328 := by rw [ints_len]; omega
        have e3 : ∀ c : Int, ints A ++ [.int .i64 c] = ints (A ++ [c]) := fun c => by simp [ints]
        have hw := wr1 h (by omega)
        refine condW_t (decide_eq_true g0) (condW_t (decide_eq_true (by omega)) ?_)
        rw [Int.toNat_natCast]
        refine ⟨_, _, _, _, lits_at hl1, ?_⟩
        cases hneg : l.neg with
        | true =>
          have w := w_numbers false (A ++ [1]) (l := l.r.l) (by simp; omega) l.r.z l.r.e
          rw [Bool.and_false]
          refine condW_t rfl (condW_t (decide_eq_true k5) (condW_t (decide_eq_true k6) (condW_t (decide_eq_true (by omega)) ⟨_, _, _, _, lits_at hl1, ?_⟩)))
          rw [e3]
          refine ⟨_, _, _, w, ?_⟩
          rw [hw]
          rfl
        | false =>
          have w := w_numbers false (A ++ [0]) (l := l.r.l) (by simp; omega) l.r.z l.r.e
          rw [Bool.and_false]
          refine condW_f rfl (condW_t (decide_eq_true k5) (condW_t (decide_eq_true k6) (condW_t (decide_eq_true (by omega)) ⟨_, _, _, _, lits_at hl1, ?_⟩)))
          rw [e3]
          refine ⟨_, _, _, w, ?_⟩
          rw [hw]
          rfl
      · have e1 : i = ls.length := by omega
        subst e1
        refine .stop (.exit 0 [(0, .own false 3 1 (ints (xs ++ ([(ls.length : Int)] ++ litNs ls)))), (1, iL z' ls e), (5, iI ls.length)]) (wpQ_way (q18_l0a _ _ false (ints (xs ++ ([(ls.length : Int)] ++ litNs (ls.take ls.length)))) z' (lits ls) e ls.length _) ?_) rfl rfl
        simp [List.take_length, lits_len]) 0 (Nat.zero_le _)
  have k1 : (ints xs).length + (0 + 1) ≤ 9223372036854775807 := by rw [ints_len]; omega
  have k2 : ((ints xs).length + (0 + 1)) * 8 ≤ 140737488355328 := by rw [ints_len]; omega
  rw [condW_d, if_pos k1, condW_d, if_pos k2]
  have e3 : ints (xs ++ ([(ls.length : Int)] ++ litNs (ls.take 0))) = ints xs ++ [.int .i64 (ls.length : Nat)] := by
    simp [litNs, ints]
  rw [e3] at h1
  rw [Bool.and_false, lits_len]
  exact ⟨_, _, _, _, _, _, h1, rfl⟩
end Go.Proofs.YtjoibdmiolcodaaGreatDoor.Ab

/- Written by a program of this session (wip/tools/AbSym.lean). Not trusted: Lean checks it. -/
set_option maxRecDepth 100000
set_option linter.unusedVariables false
namespace Go.Proofs.YtjoibdmiolcodaaGreatDoor.Ab
open Go Go.Ab Go.Proofs
def L3 : Lps := fun b => match b with
  | _ => [.norm []]
theorem q3 (C J) (z1 : Bool) (x2 : List D) (e3 : List D) (i4 : Int) (i5 : Int) (i6 : Int) (i7 : Int) (i8 : Int) (i9 : Int) (i10 : Int) (z11 : Bool) (x12 : List D) (e13 : List D) (z14 : Bool) (x15 : List D) (e16 : List D) (z17 : Bool) (x18 : List D) (e19 : List D) (Q) : fnW F C R (L3) J d3 [.d (.sl 4 z1 x2 e3), .d (.agg [.int .i64 i4, .int .i64 i5, .int .i64 i6, .int .i64 i7, .int .i64 i8, .int .i64 i9, .int .i64 i10, .sl 2 z11 x12 e13, .sl 1 z14 x15 e16, .sl 2 z17 x18 e19])] Q = (∃ w0 w1 w2, C 5 [IV.d (D.sl 10 false [D.agg [D.int IntKind.i64 i4, D.int IntKind.i64 i5, D.int IntKind.i64 i6, D.int IntKind.i64 i7, D.int IntKind.i64 i8, D.int IntKind.i64 i9, D.int IntKind.i64 i10, D.sl 2 z11 x12 e13, D.sl 1 z14 x15 e16, D.sl 2 z17 x18 e19]] [])] = some (IV.own w0 28 10 w1, [IV.d w2]) ∧ ∃ w3 w4 w5 w6, C 6 [IV.d (D.sl 4 z1 x2 e3), IV.d (D.agg [D.int IntKind.i64 i4, D.int IntKind.i64 i5, D.int IntKind.i64 i6, D.int IntKind.i64 i7, D.int IntKind.i64 i8, D.int IntKind.i64 i9, D.int IntKind.i64 i10, D.sl 2 z11 x12 e13, D.sl 1 z14 x15 e16, D.sl 2 z17 x18 e19])] = some (IV.tup [IV.d (D.str w3), IV.d (D.int IntKind.i64 w4)], [IV.d w5, IV.d w6]) ∧ ∃ w7 w8 w9 w10, C 7 [IV.d (D.sl 4 z1 x2 e3), IV.d (D.agg [D.int IntKind.i64 i4, D.int IntKind.i64 i5, D.int IntKind.i64 i6, D.int IntKind.i64 i7, D.int IntKind.i64 i8, D.int IntKind.i64 i9, D.int IntKind.i64 i10, D.sl 2 z11 x12 e13, D.sl 1 z14 x15 e16, D.sl 2 z17 x18 e19])] = some (IV.tup [IV.d (D.str w7), IV.d (D.int IntKind.i64 w8)], [IV.d w9, IV.d w10]) ∧ ∃ w11 w12 w13, C 8 [IV.d (D.sl 4 z1 x2 e3), IV.d (D.agg [D.int IntKind.i64 i4, D.int IntKind.i64 i5, D.int IntKind.i64 i6, D.int IntKind.i64 i7, D.int IntKind.i64 i8, D.int IntKind.i64 i9, D.int IntKind.i64 i10, D.sl 2 z11 x12 e13, D.sl 1 z14 x15 e16, D.sl 2 z17 x18 e19])] = some (IV.d (D.bool w11), [IV.d w12, IV.d w13]) ∧ condW w11 (∃ w14 w15 w16, C 9 [IV.d (D.sl 4 z1 x2 e3), IV.d (D.agg [D.int IntKind.i64 i4, D.int IntKind.i64 i5, D.int IntKind.i64 i6, D.int IntKind.i64 i7, D.int IntKind.i64 i8, D.int IntKind.i64 i9, D.int IntKind.i64 i10, D.sl 2 z11 x12 e13, D.sl 1 z14 x15 e16, D.sl 2 z17 x18 e19])] = some (IV.d (D.bool w14), [IV.d w15, IV.d w16]) ∧ condW w14 (condW (ByteArray.toList w3 == ByteArray.toList w7) (∃ w17 w18, C 10 [IV.d (D.int IntKind.i64 w4)] = some (IV.d (D.int IntKind.i64 w17), [IV.d w18]) ∧ condW (w17 == w8) (∃ w19 w20 w21, C 11 [IV.d (D.sl 10 w0 w1 []), IV.d (D.sl 10 false [D.agg [D.int IntKind.i64 i4, D.int IntKind.i64 i5, D.int IntKind.i64 i6, D.int IntKind.i64 i7, D.int IntKind.i64 i8, D.int IntKind.i64 i9, D.int IntKind.i64 i10, D.sl 2 z11 x12 e13, D.sl 1 z14 x15 e16, D.sl 2 z17 x18 e19]] [])] = some (IV.d (D.bool w19), [IV.d w20, IV.d w21]) ∧ condW w19 (∃ w22, C 12 [] = some (IV.d (D.bool w22), []) ∧ condW w22 (Q (some (IV.d (D.bool true), [IV.d (D.sl 4 z1 x2 e3), IV.d (D.agg [D.int IntKind.i64 i4, D.int IntKind.i64 i5, D.int IntKind.i64 i6, D.int IntKind.i64 i7, D.int IntKind.i64 i8, D.int IntKind.i64 i9, D.int IntKind.i64 i10, D.sl 2 z11 x12 e13, D.sl 1 z14 x15 e16, D.sl 2 z17 x18 e19])]))) (Q (some (IV.d (D.bool false), [IV.d (D.sl 4 z1 x2 e3), IV.d (D.agg [D.int IntKind.i64 i4, D.int IntKind.i64 i5, D.int IntKind.i64 i6, D.int IntKind.i64 i7, D.int IntKind.i64 i8, D.int IntKind.i64 i9, D.int IntKind.i64 i10, D.sl 2 z11 x12 e13, D.sl 1 z14 x15 e16, D.sl 2 z17 x18 e19])])))) (Q (some (IV.d (D.bool false), [IV.d (D.sl 4 z1 x2 e3), IV.d (D.agg [D.int IntKind.i64 i4, D.int IntKind.i64 i5, D.int IntKind.i64 i6, D.int IntKind.i64 i7, D.int IntKind.i64 i8, D.int IntKind.i64 i9, D.int IntKind.i64 i10, D.sl 2 z11 x12 e13, D.sl 1 z14 x15 e16, D.sl 2 z17 x18 e19])])))) (Q (some (IV.d (D.bool false), [IV.d (D.sl 4 z1 x2 e3), IV.d (D.agg [D.int IntKind.i64 i4, D.int IntKind.i64 i5, D.int IntKind.i64 i6, D.int IntKind.i64 i7, D.int IntKind.i64 i8, D.int IntKind.i64 i9, D.int IntKind.i64 i10, D.sl 2 z11 x12 e13, D.sl 1 z14 x15 e16, D.sl 2 z17 x18 e19])])))) (Q (some (IV.d (D.bool false), [IV.d (D.sl 4 z1 x2 e3), IV.d (D.agg [D.int IntKind.i64 i4, D.int IntKind.i64 i5, D.int IntKind.i64 i6, D.int IntKind.i64 i7, D.int IntKind.i64 i8, D.int IntKind.i64 i9, D.int IntKind.i64 i10, D.sl 2 z11 x12 e13, D.sl 1 z14 x15 e16, D.sl 2 z17 x18 e19])])))) (Q (some (IV.d (D.bool false), [IV.d (D.sl 4 z1 x2 e3), IV.d (D.agg [D.int IntKind.i64 i4, D.int IntKind.i64 i5, D.int IntKind.i64 i6, D.int IntKind.i64 i7, D.int IntKind.i64 i8, D.int IntKind.i64 i9, D.int IntKind.i64 i10, D.sl 2 z11 x12 e13, D.sl 1 z14 x15 e16, D.sl 2 z17 x18 e19])])))) (∃ w23 w24 w25, C 9 [IV.d (D.sl 4 z1 x2 e3), IV.d (D.agg [D.int IntKind.i64 i4, D.int IntKind.i64 i5, D.int IntKind.i64 i6, D.int IntKind.i64 i7, D.int IntKind.i64 i8, D.int IntKind.i64 i9, D.int IntKind.i64 i10, D.sl 2 z11 x12 e13, D.sl 1 z14 x15 e16, D.sl 2 z17 x18 e19])] = some (IV.d (D.bool w23), [IV.d w24, IV.d w25]) ∧ condW w23 (Q (some (IV.d (D.bool false), [IV.d (D.sl 4 z1 x2 e3), IV.d (D.agg [D.int IntKind.i64 i4, D.int IntKind.i64 i5, D.int IntKind.i64 i6, D.int IntKind.i64 i7, D.int IntKind.i64 i8, D.int IntKind.i64 i9, D.int IntKind.i64 i10, D.sl 2 z11 x12 e13, D.sl 1 z14 x15 e16, D.sl 2 z17 x18 e19])]))) (condW (ByteArray.toList w3 == ByteArray.toList w7) (∃ w26 w27, C 10 [IV.d (D.int IntKind.i64 w4)] = some (IV.d (D.int IntKind.i64 w26), [IV.d w27]) ∧ condW (w26 == w8) (∃ w28 w29 w30, C 11 [IV.d (D.sl 10 w0 w1 []), IV.d (D.sl 10 false [D.agg [D.int IntKind.i64 i4, D.int IntKind.i64 i5, D.int IntKind.i64 i6, D.int IntKind.i64 i7, D.int IntKind.i64 i8, D.int IntKind.i64 i9, D.int IntKind.i64 i10, D.sl 2 z11 x12 e13, D.sl 1 z14 x15 e16, D.sl 2 z17 x18 e19]] [])] = some (IV.d (D.bool w28), [IV.d w29, IV.d w30]) ∧ condW w28 (∃ w31, C 12 [] = some (IV.d (D.bool w31), []) ∧ condW w31 (Q (some (IV.d (D.bool true), [IV.d (D.sl 4 z1 x2 e3), IV.d (D.agg [D.int IntKind.i64 i4, D.int IntKind.i64 i5, D.int IntKind.i64 i6, D.int IntKind.i64 i7, D.int IntKind.i64 i8, D.int IntKind.i64 i9, D.int IntKind.i64 i10, D.sl 2 z11 x12 e13, D.sl 1 z14 x15 e16, D.sl 2 z17 x18 e19])]))) (Q (some (IV.d (D.bool false), [IV.d (D.sl 4 z1 x2 e3), IV.d (D.agg [D.int IntKind.i64 i4, D.int IntKind.i64 i5, D.int IntKind.i64 i6, D.int IntKind.i64 i7, D.int IntKind.i64 i8, D.int IntKind.i64 i9, D.int IntKind.i64 i10, D.sl 2 z11 x12 e13, D.sl 1 z14 x15 e16, D.sl 2 z17 x18 e19])])))) (Q (some (IV.d (D.bool false), [IV.d (D.sl 4 z1 x2 e3), IV.d (D.agg [D.int IntKind.i64 i4, D.int IntKind.i64 i5, D.int IntKind.i64 i6, D.int IntKind.i64 i7, D.int IntKind.i64 i8, D.int IntKind.i64 i9, D.int IntKind.i64 i10, D.sl 2 z11 x12 e13, D.sl 1 z14 x15 e16, D.sl 2 z17 x18 e19])])))) (Q (some (IV.d (D.bool false), [IV.d (D.sl 4 z1 x2 e3), IV.d (D.agg [D.int IntKind.i64 i4, D.int IntKind.i64 i5, D.int IntKind.i64 i6, D.int IntKind.i64 i7, D.int IntKind.i64 i8, D.int IntKind.i64 i9, D.int IntKind.i64 i10, D.sl 2 z11 x12 e13, D.sl 1 z14 x15 e16, D.sl 2 z17 x18 e19])])))) (Q (some (IV.d (D.bool false), [IV.d (D.sl 4 z1 x2 e3), IV.d (D.agg [D.int IntKind.i64 i4, D.int IntKind.i64 i5, D.int IntKind.i64 i6, D.int IntKind.i64 i7, D.int IntKind.i64 i8, D.int IntKind.i64 i9, D.int IntKind.i64 i10, D.sl 2 z11 x12 e13, D.sl 1 z14 x15 e16, D.sl 2 z17 x18 e19])])))))) := by kernel_rfl
end Go.Proofs.YtjoibdmiolcodaaGreatDoor.Ab

/- Steps: the law. For every input; no condition. -/
set_option linter.unusedVariables false
set_option linter.unusedSimpArgs false
set_option maxRecDepth 100000
namespace Go.Proofs.YtjoibdmiolcodaaGreatDoor.Ab
open Go Go.Ab Go.Qu Go.Proofs
attribute [local simp] and_assoc
theorem app_list (a b : ByteArray) : (a ++ b).data.toList = a.data.toList ++ b.data.toList := by
  rw [ByteArray.data_append, Array.toList_append]
theorem app_size (a b : ByteArray) : (a ++ b).size = a.size + b.size := ByteArray.size_append
theorem text_take {ns : List Int} {i : Nat} {n : Int} (hn : ns[i]? = some n) (h : 0 < i) : textOf (ns.take i) ++ ⟨#[32]⟩ ++ wd n = textOf (ns.take (i + 1)) := by
  have e1 : ns.take (i + 1) = ns.take i ++ [n] := by rw [List.take_add_one, hn]; rfl
  have hi := (List.getElem?_eq_some_iff.1 hn).1
  have hne : ns.take i ≠ [] := fun h2 => by
    have := congrArg List.length h2
    simp at this
    rcases this with h3 | h3
    · omega
    · subst h3; simp at hi
  refine ba_ext ?_
  rw [e1, text_snoc hne, app_list, app_list, wd_list, List.append_assoc]
  rfl
theorem text_one (n : Int) : textOf [n] = wd n := ba_ext (by rw [text_list, wd_list]; simp [Lib.joinTail])
theorem w_fwrite (z : Bool) (g : List Sym) (e : List D) (s : Stp) : C 7 [iG z g e, iSt s] = some (.tup [.d (.str (txtF g s)), iI (errF g s)], [iG z g e, iSt s]) := by
  refine wfn (lk := []) rfl rfl (fnW_way (q7 _ _ z (syms g) e s.r s.a s.i s.s s.b s.j s.t s.c.lz (lits s.c.ls) s.c.le s.c.tz (rws s.c.ts) s.c.te s.c.cz (lits s.c.cs) s.c.ce _) ?_)
  refine ⟨_, _, _, w_fmay z g e s, ?_⟩
  cases hmay : mayB g s with
  | false =>
    rw [show txtF g s = ⟨#[]⟩ by simp [txtF, hmay], show errF g s = 1700 by simp [errF, hmay]]
    exact condW_f rfl rfl
  | true =>
    rw [show txtF g s = textOf (stepNs s) by simp [txtF, hmay], show errF g s = 0 by simp [errF, hmay]]
    refine condW_t rfl ?_
    obtain ⟨hn, ho⟩ := may_all hmay
    have hlen : (stepNs s).length = 7 + (1 + (litNs s.c.ls).length + (1 + (rowNs s.c.ts).length + (1 + (litNs s.c.cs).length))) := by
      simp [stepNs]; omega
    have hr := rowNs_len s.c.ts
    have a1 := w_flits false [s.r, s.a, s.i, s.s, s.b, s.j, s.t] (ls := s.c.ls) (by simp; omega) s.c.lz s.c.le
    generalize hA : [s.r, s.a, s.i, s.s, s.b, s.j, s.t] ++ ([(s.c.ls.length : Int)] ++ litNs s.c.ls) = A at a1
    have hAl : A.length = 8 + (litNs s.c.ls).length := by rw [← hA]; simp; omega
    refine ⟨_, _, _, a1, ?_⟩
    have k1 : (ints A).length + (0 + 1) ≤ 9223372036854775807 := by rw [ints_len]; omega
    have k2 : ((ints A).length + (0 + 1)) * 8 ≤ 140737488355328 := by rw [ints_len]; omega
    rw [condW_d, if_pos k1, condW_d, if_pos k2]
    have h1 := blk_fun (F := F) (d := d7) (lk := []) (p := [1,1,1,1,1,0,1,0,0]) (p0 := [1,1,1,1,1,0,1]) (id := 0) (by kernel_rfl) (st := fun (i : Nat) => [(3, .dbox 28 0 [.int .i64 s.r, .int .i64 s.a, .int .i64 s.i, .int .i64 s.s, .int .i64 s.b, .int .i64 s.j, .int .i64 s.t, .sl 2 s.c.lz (lits s.c.ls) s.c.le, .sl 1 s.c.tz (rws s.c.ts) s.c.te, .sl 2 s.c.cz (lits s.c.cs) s.c.ce]), (6, .own false 3 1 (ints (A ++ ([(s.c.ts.length : Int)] ++ rowNs (s.c.ts.take i))))), (7, iI i)]) (I := fun i => i ≤ s.c.ts.length) (μ := fun i => s.c.ts.length - i)
      (res := fun _ => .norm [(3, .dbox 28 0 [.int .i64 s.r, .int .i64 s.a, .int .i64 s.i, .int .i64 s.s, .int .i64 s.b, .int .i64 s.j, .int .i64 s.t, .sl 2 s.c.lz (lits s.c.ls) s.c.le, .sl 1 s.c.tz (rws s.c.ts) s.c.te, .sl 2 s.c.cz (lits s.c.cs) s.c.ce]), (6, .own false 3 1 (ints (A ++ ([(s.c.ts.length : Int)] ++ rowNs s.c.ts)))), (7, iI s.c.ts.length)])
      (fun i hi => by
        by_cases h : i < s.c.ts.length
        · obtain ⟨l, hl1⟩ := at_lt h
          have e1 : s.c.ts.take (i + 1) = s.c.ts.take i ++ [l] := by rw [List.take_add_one, hl1]; rfl
          have hb := rowNs_take s.c.ts (i + 1)
          rw [e1, rowNs_snoc] at hb
          simp only [List.length_append, List.length_cons, List.length_nil] at hb
          refine .go (i + 1) (wpQ_way (q7_l0a _ _ s.r s.a s.i s.s s.b s.j s.t s.c.lz (lits s.c.ls) s.c.le s.c.tz (rws s.c.ts) s.c.te s.c.cz (lits s.c.cs) s.c.ce false (ints (A ++ ([(s.c.ts.length : Int)] ++ rowNs (s.c.ts.take i)))) i _) ?_) h (by omega) rfl
          have g0 : ((i : Int) < (rws s.c.ts).length) := by rw [rws_len]; omega
          have g1 : ((A ++ ([(s.c.ts.length : Int)] ++ rowNs (s.c.ts.take i))).length : Nat) + l.l.length + 2 ≤ 1000000 := by
            simp only [List.length_append, List.length_cons, List.length_nil]
            omega
          generalize hB : A ++ ([(s.c.ts.length : Int)] ++ rowNs (s.c.ts.take i)) = B at g1 ⊢
          have e2 : A ++ ([(s.c.ts.length : Int)] ++ rowNs (s.c.ts.take (i + 1))) = B ++ ([(l.l.length : Int)] ++ l.l) := by
            rw [e1, rowNs_snoc, ← hB]; simp
          have w := w_numbers false B (l := l.l) (by omega) l.z l.e
          have hw := wr1 h (by omega)
          refine condW_t (decide_eq_true g0) (condW_t (decide_eq_true (by omega)) ?_)
          rw [Int.toNat_natCast]
          refine ⟨_, _, _, rws_at hl1, _, _, _, w, ?_⟩
          rw [hw, e2]
        · have e1 : i = s.c.ts.length := by omega
          subst e1
          refine .stop (.exit 0 [(3, .dbox 28 0 [.int .i64 s.r, .int .i64 s.a, .int .i64 s.i, .int .i64 s.s, .int .i64 s.b, .int .i64 s.j, .int .i64 s.t, .sl 2 s.c.lz (lits s.c.ls) s.c.le, .sl 1 s.c.tz (rws s.c.ts) s.c.te, .sl 2 s.c.cz (lits s.c.cs) s.c.ce]), (6, .own false 3 1 (ints (A ++ ([(s.c.ts.length : Int)] ++ rowNs s.c.ts)))), (7, iI s.c.ts.length)]) (wpQ_way (q7_l0a _ _ s.r s.a s.i s.s s.b s.j s.t s.c.lz (lits s.c.ls) s.c.le s.c.tz (rws s.c.ts) s.c.te s.c.cz (lits s.c.cs) s.c.ce false (ints (A ++ ([(s.c.ts.length : Int)] ++ rowNs (s.c.ts.take s.c.ts.length)))) s.c.ts.length _) ?_) rfl rfl
          simp [List.take_length, rws_len]) 0 (Nat.zero_le _)
    have e3 : ints (A ++ ([(s.c.ts.length : Int)] ++ rowNs (s.c.ts.take 0))) = ints A ++ [.int .i64 (s.c.ts.length : Nat)] := by
      simp [rowNs, ints]
    rw [e3] at h1
    rw [Bool.and_false, rws_len]
    refine ⟨_, _, _, _, _, _, _, _, _, _, _, _, _, _, _, _, _, _, _, h1, ?_⟩
    clear h1 e3
    generalize hB : A ++ ([(s.c.ts.length : Int)] ++ rowNs s.c.ts) = B
    have hBl : B.length = A.length + (1 + (rowNs s.c.ts).length) := by rw [← hB]; simp; omega
    have a2 := w_flits false B (ls := s.c.cs) (by omega) s.c.cz s.c.ce
    have hS : B ++ ([(s.c.cs.length : Int)] ++ litNs s.c.cs) = stepNs s := by
      rw [← hB, ← hA]; simp [stepNs]
    rw [hS] at a2
    refine ⟨_, _, _, a2, ?_⟩
    generalize stepNs s = ns at hn ho ⊢
    have ht : ∀ i, (textOf (ns.take i)).size ≤ 11 * 300 := fun i => by
      have h2 := textOf_size (ns.take i) (fun x hx => ho x (List.mem_of_mem_take hx))
      have h3 : (ns.take i).length ≤ ns.length := by simp; omega
      omega
    have h2 := blk_fun (F := F) (d := d7) (lk := []) (p := [1,1,1,1,1,1,1,1,0,1,0,0]) (p0 := [1,1,1,1,1,1,1,1,0,1]) (id := 2) (by kernel_rfl) (st := fun (i : Nat) => [(6, .own false 3 1 (ints ns)), (8, .d (.str (textOf (ns.take i)))), (9, iI i)]) (I := fun i => i ≤ ns.length) (μ := fun i => ns.length - i)
      (res := fun _ => .norm [(6, .own false 3 1 (ints ns)), (8, .d (.str (textOf ns))), (9, iI ns.length)])
      (fun i hi => by
        by_cases h : i < ns.length
        · obtain ⟨n, hn1⟩ := at_lt h
          refine .go (i + 1) (wpQ_way (q7_l2a _ _ false (ints ns) (textOf (ns.take i)) i _) ?_) h (by omega) rfl
          have g0 : ((i : Int) < (ints ns).length) := by rw [ints_len]; omega
          have ho1 := ho n (List.mem_of_getElem? hn1)
          have hw := wr1 h (by omega)
          have hl := itoa_len ho1.1 ho1.2
          have hl2 : (wd n).size ≤ 10 := by rw [wd_size]; exact hl
          have hti := ht i
          refine condW_t (decide_eq_true g0) ?_
          by_cases h0 : 0 < i
          · have z1 : (⟨#[32]⟩ : ByteArray).size = 1 := rfl
            refine condW_t (decide_eq_true (by omega)) (condW_t (decide_eq_true (by rw [z1]; omega)) (condW_t (decide_eq_true (by omega)) ?_))
            rw [Int.toNat_natCast]
            refine ⟨_, ints_get hn1, _, ints_get hn1, _, _, w_decimal ho1, condW_t (decide_eq_true (by rw [app_size, z1]; omega)) ?_⟩
            rw [hw, text_take hn1 h0]
          · obtain rfl : i = 0 := by omega
            refine condW_f (decide_eq_false (by omega)) (condW_t (decide_eq_true (by omega)) ?_)
            rw [Int.toNat_natCast]
            refine ⟨_, ints_get hn1, _, ints_get hn1, _, _, w_decimal ho1, condW_t (decide_eq_true (by omega)) ?_⟩
            have e0 : ns.take (0 + 1) = [n] := by rw [List.take_add_one, hn1]; simp
            have e1 : textOf (ns.take 0) ++ wd n = textOf (ns.take (0 + 1)) := by
              rw [e0, text_one]
              exact ba_ext (by rw [app_list]; simp [textOf, joinB, Lib.join_nil])
            rw [hw, e1]
        · have e1 : i = ns.length := by omega
          subst e1
          refine .stop (.exit 2 [(6, .own false 3 1 (ints ns)), (8, .d (.str (textOf ns))), (9, iI ns.length)]) (wpQ_way (q7_l2a _ _ false (ints ns) (textOf (ns.take ns.length)) ns.length _) ?_) rfl rfl
          simp [List.take_length, ints_len]) 0 (Nat.zero_le _)
    exact ⟨_, _, _, _, h2, rfl⟩
/-! ### One step, copied -/
end Go.Proofs.YtjoibdmiolcodaaGreatDoor.Ab

/- Steps as texts: how the reference reads. Plain; no program in sight, no condition. -/
set_option linter.unusedVariables false
set_option linter.unusedSimpArgs false
namespace Go.Qu
open Go Go.Ab

/-! ### Numbers of a text -/
def digF : List UInt8 → Nat → Nat → Nat × Nat × List UInt8
  | [], x, k => (x, k, [])
  | c :: r, x, k => if 48 ≤ c.toNat ∧ c.toNat ≤ 57 ∧ k < 7 then digF r (x * 10 + (c.toNat - 48)) (k + 1) else (x, k, c :: r)
theorem digF_len : ∀ (l : List UInt8) (x k : Nat), (digF l x k).2.2.length ≤ l.length
  | [], x, k => by simp [digF]
  | c :: r, x, k => by
    unfold digF
    split
    · have := digF_len r (x * 10 + (c.toNat - 48)) (k + 1)
      simp only [List.length_cons]; omega
    · simp
def signF : List UInt8 → Bool × List UInt8
  | [] => (false, [])
  | c :: r => if c = 45 then (true, r) else (false, c :: r)
theorem signF_len (l : List UInt8) : (signF l).2.length ≤ l.length := by
  cases l with
  | nil => simp [signF]
  | cons c r =>
    show (if c = 45 then (true, r) else (false, c :: r)).2.length ≤ _
    split <;> simp
/-- One number: what it is, how many digits, what stands behind. -/
def numR (l : List UInt8) : Int × Nat × List UInt8 :=
  let d := digF (signF l).2 0 0
  (if (signF l).1 = true then -(d.1 : Int) else d.1, d.2.1, d.2.2)
theorem numR_len (l : List UInt8) : (numR l).2.2.length ≤ l.length := Nat.le_trans (digF_len _ _ _) (signF_len l)
def wordsL (l : List UInt8) : List Int :=
  if h0 : l = [] then []
  else if (numR l).2.1 = 0 ∨ (numR l).2.1 = 7 then []
  else (numR l).1 :: (if h : (numR l).2.2.head? = some 32 then wordsL (numR l).2.2.tail else [])
termination_by l.length
decreasing_by
  have h1 := numR_len l
  have h2 : (numR l).2.2 ≠ [] := fun e => by rw [e] at h; cases h
  have h3 := List.length_pos_iff.2 h2
  rw [List.length_tail]
  omega
def Sm (n : Int) : Prop := -1000000 < n ∧ n < 1000000
theorem digF_small : ∀ (l : List UInt8) (x k : Nat), k ≤ 7 → x < 10 ^ k → (digF l x k).1 < 10 ^ (digF l x k).2.1 ∧ (digF l x k).2.1 ≤ 7
  | [], x, k, hk, hx => ⟨hx, hk⟩
  | c :: r, x, k, hk, hx => by
    unfold digF
    split
    · rename_i h
      exact digF_small r _ _ (by omega) (by rw [Nat.pow_succ]; omega)
    · exact ⟨hx, hk⟩
theorem numR_small {l : List UInt8} (h : ¬ (numR l).2.1 = 7) : Sm (numR l).1 := by
  have h1 := digF_small (signF l).2 0 0 (by omega) (by omega)
  have h2 : (numR l).2.1 = (digF (signF l).2 0 0).2.1 := rfl
  rw [h2] at h
  have h3 : (digF (signF l).2 0 0).2.1 ≤ 6 := by omega
  have h4 : (10 : Nat) ^ (digF (signF l).2 0 0).2.1 ≤ 10 ^ 6 := Nat.pow_le_pow_right (by omega) h3
  have h5 : (10 : Nat) ^ 6 = 1000000 := by decide
  have h6 : (digF (signF l).2 0 0).1 < 1000000 := by omega
  unfold Sm numR
  dsimp only
  split <;> omega
theorem wordsL_small : ∀ (n : Nat) (l : List UInt8), l.length ≤ n → ∀ x ∈ wordsL l, Sm x
  | n, l, hn, x, hx => by
    rw [wordsL] at hx
    split at hx
    · cases hx
    · split at hx
      · cases hx
      · rename_i h1 h2
        rcases List.mem_cons.1 hx with rfl | hx
        · exact numR_small (fun h => h2 (.inr h))
        · split at hx
          · rename_i h3
            have h4 := numR_len l
            have h5 : (numR l).2.2 ≠ [] := fun e => by rw [e] at h3; cases h3
            have h6 := List.length_pos_iff.2 h5
            have h7 := List.length_pos_iff.2 h1
            match n, hn with
            | 0, hn => omega
            | n + 1, hn => exact wordsL_small n _ (by rw [List.length_tail]; omega) x hx
          · cases hx
theorem wordsL_len : ∀ (n : Nat) (l : List UInt8), l.length ≤ n → (wordsL l).length ≤ l.length
  | n, l, hn => by
    rw [wordsL]
    split
    · simp
    · rename_i h1
      have h7 := List.length_pos_iff.2 h1
      split
      · simp
      · split
        · rename_i h3
          have h4 := numR_len l
          have h5 : (numR l).2.2 ≠ [] := fun e => by rw [e] at h3; cases h3
          have h6 := List.length_pos_iff.2 h5
          match n, hn with
          | 0, hn => omega
          | n + 1, hn =>
            have := wordsL_len n (numR l).2.2.tail (by rw [List.length_tail]; omega)
            rw [List.length_tail] at this
            simp only [List.length_cons]
            omega
        · simp; omega
/-! ### A number that was written -/
theorem digF_digs : ∀ (ds rest : List UInt8) (x k v : Nat), Lib.decFrom x ds = some v → ds.length + k ≤ 7 → digF (ds ++ rest) x k = digF rest v (k + ds.length)
  | [], rest, x, k, v, h, _ => by
    simp only [Lib.decFrom, Option.some.injEq] at h
    subst h
    rfl
  | c :: ds, rest, x, k, v, h, hk => by
    unfold Lib.decFrom at h
    split at h
    · rename_i d hd
      unfold Lib.digitVal at hd
      split at hd
      · rename_i hc
        simp only [Option.some.injEq] at hd
        subst hd
        simp only [List.length_cons] at hk
        show (if 48 ≤ c.toNat ∧ c.toNat ≤ 57 ∧ k < 7 then digF (ds ++ rest) (x * 10 + (c.toNat - 48)) (k + 1) else (x, k, c :: (ds ++ rest))) = _
        rw [if_pos ⟨hc.1, hc.2, by omega⟩, digF_digs ds rest _ _ _ h (by omega)]
        rw [List.length_cons, Nat.add_assoc, Nat.add_comm 1]
      · cases hd
    · cases h
theorem dec_len6 {m : Nat} (h : m < 1000000) : (Lib.decDigits m).length ≤ 6 := by
  have key : ∀ (k m : Nat), m < 10 ^ (k + 1) → (Lib.decDigits m).length ≤ k + 1 := by
    intro k
    induction k with
    | zero => intro m hm; rw [Lib.decDigits, dif_pos (by omega)]; simp
    | succ k ih =>
      intro m hm
      rw [Lib.decDigits]
      split
      · simp
      · have := ih (m / 10) (by rw [Nat.pow_succ] at hm; omega)
        rw [List.length_append, List.length_singleton]
        omega
  exact key 5 m (by omega)
/-- What stands behind a number: nothing, or a blank. -/
def Behind (l : List UInt8) : Prop := l = [] ∨ l.head? = some 32
theorem digF_stop {l : List UInt8} (h : Behind l) (x k : Nat) : digF l x k = (x, k, l) := by
  rcases h with rfl | h
  · rfl
  · cases l with
    | nil => cases h
    | cons c r =>
      simp only [List.head?_cons, Option.some.injEq] at h
      subst h
      unfold digF
      rw [if_neg]
      rintro ⟨h1, _⟩
      exact absurd h1 (by decide)
theorem numR_itoa {n : Int} (h : Sm n) {rest : List UInt8} (hr : Behind rest) : (numR (Lib.itoa n ++ rest)).1 = n ∧ (1 ≤ (numR (Lib.itoa n ++ rest)).2.1 ∧ (numR (Lib.itoa n ++ rest)).2.1 ≤ 6) ∧ (numR (Lib.itoa n ++ rest)).2.2 = rest := by
  unfold Sm at h
  have key : ∀ m : Nat, m < 1000000 → digF (Lib.decDigits m ++ rest) 0 0 = (m, (Lib.decDigits m).length, rest) := fun m hm => by
    have h1 := dec_len6 hm
    rw [digF_digs _ _ _ _ _ (decFrom_dec m) (by omega), digF_stop hr, Nat.zero_add]
  have pos : ∀ m : Nat, 1 ≤ (Lib.decDigits m).length := fun m => List.length_pos_iff.2 (decDigits_dig m).1
  unfold Lib.itoa
  by_cases h0 : n < 0
  · rw [if_pos h0]
    have hk := key n.natAbs (by omega)
    have e : signF (45 :: Lib.decDigits n.natAbs ++ rest) = (true, Lib.decDigits n.natAbs ++ rest) := by
      show (if (45 : UInt8) = 45 then (true, Lib.decDigits n.natAbs ++ rest) else (false, 45 :: (Lib.decDigits n.natAbs ++ rest))) = _
      rw [if_pos rfl]
    unfold numR
    rw [e]
    dsimp only
    rw [hk, if_pos rfl]
    exact ⟨by dsimp only; omega, ⟨pos _, dec_len6 (by omega)⟩, rfl⟩
  · rw [if_neg h0]
    have hk := key n.toNat (by omega)
    have hd := decDigits_dig n.toNat
    have e : signF (Lib.decDigits n.toNat ++ rest) = (false, Lib.decDigits n.toNat ++ rest) := by
      cases hl : Lib.decDigits n.toNat with
      | nil => exact (hd.1 hl).elim
      | cons c r =>
        rw [hl] at hd
        have hc := hd.2 c (by simp)
        show (if c = 45 then (true, r ++ rest) else (false, c :: (r ++ rest))) = _
        rw [if_neg]
        · rfl
        rintro rfl
        have : (45 : UInt8).toNat = 45 := rfl
        omega
    unfold numR
    rw [e]
    dsimp only
    rw [hk, if_neg (by simp)]
    exact ⟨by dsimp only; omega, ⟨pos _, dec_len6 (by omega)⟩, rfl⟩
theorem behind_tail (ns : List Int) : Behind (Lib.joinTail [32] (ns.map Lib.itoa)) := by
  cases ns with
  | nil => exact .inl rfl
  | cons n ns => exact .inr (by simp [Lib.joinTail])
theorem words_itoa : ∀ (ns : List Int) (n : Int), Sm n → (∀ x ∈ ns, Sm x) → wordsL (Lib.itoa n ++ Lib.joinTail [32] (ns.map Lib.itoa)) = n :: ns := by
  intro ns
  induction ns with
  | nil =>
    intro n hn _
    obtain ⟨h1, h2, h3⟩ := numR_itoa hn (behind_tail [])
    have hne : Lib.itoa n ++ Lib.joinTail [32] (([] : List Int).map Lib.itoa) ≠ [] := by simp [itoa_ne]
    rw [wordsL, dif_neg hne, if_neg (by omega), h1, h3]
    simp [Lib.joinTail]
  | cons m ns ih =>
    intro n hn hs
    obtain ⟨h1, h2, h3⟩ := numR_itoa hn (behind_tail (m :: ns))
    have hne : Lib.itoa n ++ Lib.joinTail [32] ((m :: ns).map Lib.itoa) ≠ [] := by simp [itoa_ne]
    have e : Lib.joinTail [32] ((m :: ns).map Lib.itoa) = 32 :: (Lib.itoa m ++ Lib.joinTail [32] (ns.map Lib.itoa)) := by simp [Lib.joinTail]
    rw [wordsL, dif_neg hne, if_neg (by omega), h1, h3, e]
    rw [dif_pos (show (32 :: (Lib.itoa m ++ Lib.joinTail [32] (ns.map Lib.itoa))).head? = some 32 from rfl)]
    show n :: wordsL (Lib.itoa m ++ Lib.joinTail [32] (ns.map Lib.itoa)) = _
    rw [ih m (hs m (by simp)) (fun x hx => hs x (List.mem_cons_of_mem _ hx))]
theorem words_text {ns : List Int} (h : ns ≠ []) (hs : ∀ x ∈ ns, Sm x) : wordsL (textOf ns).data.toList = ns := by
  cases ns with
  | nil => exact (h rfl).elim
  | cons n ns =>
    rw [text_list]
    exact words_itoa ns n (hs n (by simp)) (fun x hx => hs x (List.mem_cons_of_mem _ hx))

/-! ### The cursor -/
def nextR : List Int → Bool → Int × List Int × Bool
  | [], _ => (0, [], true)
  | x :: r, b => (x, r, b)
def rowN : Nat → List Int → Bool → List Int × List Int × Bool
  | 0, r, b => ([], r, b)
  | k + 1, r, b => if b = true then ([], r, b) else ((nextR r b).1 :: (rowN k (nextR r b).2.1 (nextR r b).2.2).1, (rowN k (nextR r b).2.1 (nextR r b).2.2).2)
def rowR (r : List Int) (b : Bool) : List Int × List Int × Bool := rowN (nextR r b).1.toNat (nextR r b).2.1 (nextR r b).2.2
def litR (r : List Int) (b : Bool) : LitR × List Int × Bool := (⟨(nextR r b).1 == 1, mkRow (rowR (nextR r b).2.1 (nextR r b).2.2).1⟩, (rowR (nextR r b).2.1 (nextR r b).2.2).2)
def litsRN : Nat → List Int → Bool → List LitR × List Int × Bool
  | 0, r, b => ([], r, b)
  | k + 1, r, b => if b = true then ([], r, b) else ((litR r b).1 :: (litsRN k (litR r b).2.1 (litR r b).2.2).1, (litsRN k (litR r b).2.1 (litR r b).2.2).2)
def litsR (r : List Int) (b : Bool) : List LitR × List Int × Bool := litsRN (nextR r b).1.toNat (nextR r b).2.1 (nextR r b).2.2
def tupsRN : Nat → List Int → Bool → List Row × List Int × Bool
  | 0, r, b => ([], r, b)
  | k + 1, r, b => if b = true then ([], r, b) else (mkRow (rowR r b).1 :: (tupsRN k (rowR r b).2.1 (rowR r b).2.2).1, (tupsRN k (rowR r b).2.1 (rowR r b).2.2).2)
def tupsR (r : List Int) (b : Bool) : List Row × List Int × Bool := tupsRN (nextR r b).1.toNat (nextR r b).2.1 (nextR r b).2.2
def stepR (ws : List Int) : Stp × List Int × Bool :=
  let x1 := nextR ws false
  let x2 := nextR x1.2.1 x1.2.2
  let x3 := nextR x2.2.1 x2.2.2
  let x4 := nextR x3.2.1 x3.2.2
  let x5 := nextR x4.2.1 x4.2.2
  let x6 := nextR x5.2.1 x5.2.2
  let x7 := nextR x6.2.1 x6.2.2
  let y1 := litsR x7.2.1 x7.2.2
  let y2 := tupsR y1.2.1 y1.2.2
  let y3 := litsR y2.2.1 y2.2.2
  (⟨x1.1, x2.1, x3.1, x4.1, x5.1, x6.1, x7.1, ⟨y1.1.isEmpty, y1.1, [], y2.1.isEmpty, y2.1, [], y3.1.isEmpty, y3.1, []⟩⟩, y3.2.1, y3.2.2)
theorem stepR_eq {ws : List Int} {x1 x2 x3 x4 x5 x6 x7 : Int × List Int × Bool} {y1 y3 : List LitR × List Int × Bool} {y2 : List Row × List Int × Bool} (h1 : nextR ws false = x1) (h2 : nextR x1.2.1 x1.2.2 = x2) (h3 : nextR x2.2.1 x2.2.2 = x3) (h4 : nextR x3.2.1 x3.2.2 = x4) (h5 : nextR x4.2.1 x4.2.2 = x5) (h6 : nextR x5.2.1 x5.2.2 = x6) (h7 : nextR x6.2.1 x6.2.2 = x7) (g1 : litsR x7.2.1 x7.2.2 = y1) (g2 : tupsR y1.2.1 y1.2.2 = y2) (g3 : litsR y2.2.1 y2.2.2 = y3) :
    stepR ws = (⟨x1.1, x2.1, x3.1, x4.1, x5.1, x6.1, x7.1, ⟨y1.1.isEmpty, y1.1, [], y2.1.isEmpty, y2.1, [], y3.1.isEmpty, y3.1, []⟩⟩, y3.2.1, y3.2.2) := by
  subst h1; subst h2; subst h3; subst h4; subst h5; subst h6; subst h7; subst g1; subst g2; subst g3
  rfl
/-! What is left is an end of what was there. -/
theorem nextR_suf (r : List Int) (b : Bool) : (nextR r b).2.1 <:+ r := by
  cases r with
  | nil => exact List.suffix_refl _
  | cons x r => exact List.suffix_cons x r
theorem rowN_suf : ∀ (k : Nat) (r : List Int) (b : Bool), (rowN k r b).2.1 <:+ r
  | 0, r, b => List.suffix_refl _
  | k + 1, r, b => by
    unfold rowN
    split
    · exact List.suffix_refl _
    · exact (rowN_suf k _ _).trans (nextR_suf r b)
theorem rowR_suf (r : List Int) (b : Bool) : (rowR r b).2.1 <:+ r := (rowN_suf _ _ _).trans (nextR_suf r b)
theorem litR_suf (r : List Int) (b : Bool) : (litR r b).2.1 <:+ r := (rowR_suf _ _).trans (nextR_suf r b)
theorem litsRN_suf : ∀ (k : Nat) (r : List Int) (b : Bool), (litsRN k r b).2.1 <:+ r
  | 0, r, b => List.suffix_refl _
  | k + 1, r, b => by
    unfold litsRN
    split
    · exact List.suffix_refl _
    · exact (litsRN_suf k _ _).trans (litR_suf r b)
theorem litsR_suf (r : List Int) (b : Bool) : (litsR r b).2.1 <:+ r := (litsRN_suf _ _ _).trans (nextR_suf r b)
theorem tupsRN_suf : ∀ (k : Nat) (r : List Int) (b : Bool), (tupsRN k r b).2.1 <:+ r
  | 0, r, b => List.suffix_refl _
  | k + 1, r, b => by
    unfold tupsRN
    split
    · exact List.suffix_refl _
    · exact (tupsRN_suf k _ _).trans (rowR_suf r b)
theorem tupsR_suf (r : List Int) (b : Bool) : (tupsR r b).2.1 <:+ r := (tupsRN_suf _ _ _).trans (nextR_suf r b)
/-! ### Reading what was written -/
theorem rowN_of : ∀ (l r : List Int), rowN l.length (l ++ r) false = (l, r, false)
  | [], r => rfl
  | x :: l, r => by
    have ih := rowN_of l r
    simp only [List.length_cons, List.cons_append, rowN, nextR, ih, Bool.false_eq_true, if_false]
theorem rowR_of (l r : List Int) : rowR ([(l.length : Int)] ++ l ++ r) false = (l, r, false) := by
  have e : [(l.length : Int)] ++ l ++ r = (l.length : Int) :: (l ++ r) := by simp
  rw [e]
  unfold rowR
  simp only [nextR, Int.toNat_natCast]
  exact rowN_of l r
theorem litR_of (x : LitR) (r : List Int) : litR (([if x.neg then 1 else 0, (x.r.l.length : Int)] ++ x.r.l) ++ r) false = (⟨x.neg, mkRow x.r.l⟩, r, false) := by
  have e : ([if x.neg then 1 else 0, (x.r.l.length : Int)] ++ x.r.l) ++ r = (if x.neg then 1 else 0) :: ([(x.r.l.length : Int)] ++ x.r.l ++ r) := by simp
  rw [e]
  unfold litR
  simp only [nextR, rowR_of]
  cases x.neg <;> rfl
theorem litsRN_of : ∀ (ls : List LitR) (r : List Int), litsRN ls.length (litNs ls ++ r) false = (ls.map fun x => ⟨x.neg, mkRow x.r.l⟩, r, false)
  | [], r => rfl
  | x :: ls, r => by
    have ih := litsRN_of ls r
    have e : litNs (x :: ls) ++ r = ([if x.neg then 1 else 0, (x.r.l.length : Int)] ++ x.r.l) ++ (litNs ls ++ r) := by simp [litNs]
    rw [e, List.length_cons]
    simp only [litsRN, litR_of, ih, Bool.false_eq_true, if_false, List.map_cons]
theorem litsR_of (ls : List LitR) (r : List Int) : litsR ([(ls.length : Int)] ++ litNs ls ++ r) false = (ls.map fun x => ⟨x.neg, mkRow x.r.l⟩, r, false) := by
  have e : [(ls.length : Int)] ++ litNs ls ++ r = (ls.length : Int) :: (litNs ls ++ r) := by simp
  rw [e]
  unfold litsR
  simp only [nextR, Int.toNat_natCast]
  exact litsRN_of ls r
theorem tupsRN_of : ∀ (ts : List Row) (r : List Int), tupsRN ts.length (rowNs ts ++ r) false = (ts.map fun x => mkRow x.l, r, false)
  | [], r => rfl
  | x :: ts, r => by
    have ih := tupsRN_of ts r
    have e : rowNs (x :: ts) ++ r = [(x.l.length : Int)] ++ x.l ++ (rowNs ts ++ r) := by simp [rowNs]
    rw [e, List.length_cons]
    simp only [tupsRN, rowR_of, ih, Bool.false_eq_true, if_false, List.map_cons]
theorem tupsR_of (ts : List Row) (r : List Int) : tupsR ([(ts.length : Int)] ++ rowNs ts ++ r) false = (ts.map fun x => mkRow x.l, r, false) := by
  have e : [(ts.length : Int)] ++ rowNs ts ++ r = (ts.length : Int) :: (rowNs ts ++ r) := by simp
  rw [e]
  unfold tupsR
  simp only [nextR, Int.toNat_natCast]
  exact tupsRN_of ts r
theorem stepR_of (s : Stp) : stepR (stepNs s) = (newT s, [], false) := by
  have e : stepNs s = s.r :: s.a :: s.i :: s.s :: s.b :: s.j :: s.t :: ([(s.c.ls.length : Int)] ++ litNs s.c.ls ++ ([(s.c.ts.length : Int)] ++ rowNs s.c.ts ++ ([(s.c.cs.length : Int)] ++ litNs s.c.cs ++ []))) := by
    simp [stepNs]
  rw [e]
  unfold stepR
  simp only [nextR]
  rw [litsR_of]
  dsimp only
  rw [tupsR_of]
  dsimp only
  rw [litsR_of]
  simp [newT, newC]
/-! ### What the reference answers -/
def readR (g : List Sym) (t : ByteArray) : Option Stp :=
  if (stepR (wordsL t.data.toList)).2.2 = false ∧ mayB g (stepR (wordsL t.data.toList)).1 = true ∧ textOf (stepNs (stepR (wordsL t.data.toList)).1) = t then some (stepR (wordsL t.data.toList)).1 else none
theorem sm_all {g : List Sym} {s : Stp} (h : mayB g s = true) : ∀ n ∈ stepNs s, Sm n := by
  simp only [mayB, Bool.and_eq_true] at h
  obtain ⟨h1, h2⟩ := h
  obtain ⟨a1, a2, a3, a4, a5, a6, a7⟩ := num_facts h1
  have c := cl_facts h2
  have hg := sig_len c.sg
  have := c.n1
  have := c.n2
  have := c.n3
  have hl : ∀ ls : List LitR, litsB g ls = true → ∀ n ∈ litNs ls, Sm n := fun ls hb n hn => by
    obtain ⟨x, hx, hm⟩ := List.mem_flatMap.1 hn
    obtain ⟨b1, b2, b3⟩ := atom_codes (List.all_eq_true.1 hb x hx)
    simp only [List.cons_append, List.nil_append, List.mem_cons] at hm
    rcases hm with rfl | rfl | hm
    · unfold Sm; split <;> omega
    · unfold Sm; omega
    · have := b2 n hm; unfold Sm; omega
  have hr : ∀ n ∈ rowNs s.c.ts, Sm n := fun n hn => by
    obtain ⟨x, hx, hm⟩ := List.mem_flatMap.1 hn
    have hrow : rowB g x.l = true := by
      cases ht : s.c.ts with
      | nil => rw [ht] at hx; cases hx
      | cons r rs =>
        have hb := c.l2
        rw [ht] at hx hb
        have h3 := List.all_eq_true.1 (show rowsF g (termsN g r.l) (r :: rs) = true from hb) x hx
        simp only [Bool.and_eq_true] at h3
        exact h3.1
    have b1 := rowB_len hrow
    simp only [List.cons_append, List.nil_append, List.mem_cons] at hm
    rcases hm with rfl | hm
    · unfold Sm; omega
    · have := row_codes hrow n hm; unfold Sm; omega
  intro n hn
  simp only [stepNs, List.mem_append, List.mem_cons, List.not_mem_nil, or_false] at hn
  rcases hn with (rfl | rfl | rfl | rfl | rfl | rfl | rfl) | (rfl | hn) | (rfl | hn) | (rfl | hn)
  · unfold Sm; omega
  · unfold Sm; omega
  · unfold Sm; omega
  · unfold Sm; omega
  · unfold Sm; omega
  · unfold Sm; omega
  · unfold Sm; omega
  · unfold Sm; omega
  · exact hl _ c.l1 n hn
  · unfold Sm; omega
  · exact hr n hn
  · unfold Sm; omega
  · exact hl _ c.l3 n hn
theorem readR_text {g : List Sym} {s : Stp} (h : mayB g s = true) : readR g (textOf (stepNs s)) = some (newT s) := by
  unfold readR
  rw [words_text (stepNs_ne s) (sm_all h), stepR_of]
  rw [if_pos ⟨rfl, by rw [mayB_new]; exact h, by rw [stepNs_new]⟩]
/-- The two answer alike. -/
theorem read_same (g : List Sym) (t : ByteArray) : (readF g t = none ∧ readR g t = none) ∨ ∃ s, mayB g s = true ∧ readF g t = some (newT s) ∧ readR g t = some (newT s) := by
  by_cases h : ∃ s, mayB g s = true ∧ t = textOf (stepNs s)
  · obtain ⟨s, h1, rfl⟩ := h
    exact .inr ⟨s, h1, readF_text h1, readR_text h1⟩
  · refine .inl ⟨readF_none fun s h1 h2 => h ⟨s, h1, h2⟩, ?_⟩
    unfold readR
    rw [if_neg]
    rintro ⟨_, h1, h2⟩
    exact h ⟨_, h1, h2.symm⟩
end Go.Qu

/- Steps: how the reference reads. Conditions: the text has at most 4000 bytes. -/
set_option linter.unusedVariables false
set_option linter.unusedSimpArgs false
set_option maxRecDepth 100000
namespace Go.Proofs.YtjoibdmiolcodaaGreatDoor.Ab
open Go Go.Ab Go.Qu Go.Proofs
attribute [local simp] and_assoc
theorem byteAt_nat {t : ByteArray} {i : Nat} {c : UInt8} (h : t.data.toList[i]? = some c) : byteAt t (Int.toNat (i : Int)) = (c.toNat : Int) := by
  rw [Int.toNat_natCast]
  unfold byteAt
  have e : t[i]? = t.data.toList[i]? := by
    rw [Array.getElem?_toList]
    by_cases hi : i < t.size
    · rw [getElem?_pos t i hi, getElem?_pos t.data i hi]
      rfl
    · rw [getElem?_neg t i hi, getElem?_neg t.data i hi]
  rw [e, h]
theorem digF_suf : ∀ (l : List UInt8) (x k : Nat), (digF l x k).2.2 <:+ l
  | [], x, k => List.suffix_refl _
  | c :: r, x, k => by
    unfold digF
    split
    · exact (digF_suf r _ _).trans (List.suffix_cons c r)
    · exact List.suffix_refl _
theorem drop_cons {l : List UInt8} {i : Nat} {c : UInt8} (h : l[i]? = some c) : l.drop i = c :: l.drop (i + 1) := by
  have hi := (List.getElem?_eq_some_iff.1 h).1
  rw [List.drop_eq_getElem_cons hi]
  congr 1
  rw [List.getElem?_eq_getElem hi] at h
  exact Option.some.inj h
theorem wrap_digit {c : UInt8} (h1 : 48 ≤ c.toNat) (h2 : c.toNat ≤ 57) : IntKind.wrap .i64 (IntKind.wrap .u8 ((c.toNat : Int) - 48)) = ((c.toNat - 48 : Nat) : Int) := by
  have e : IntKind.wrap .u8 ((c.toNat : Int) - 48) = ((c.toNat - 48 : Nat) : Int) := by
    simp [IntKind.wrap, IntKind.bits, IntKind.signed]
    omega
  rw [e, Go.Ab.wr _ (by omega) (by omega)]
theorem l_digs {t : ByteArray} (ht : t.size ≤ 4000) (z : Bool) (xs : List D) (b : Bool) (i x k : Nat) (hi : i ≤ t.size) (hk : k ≤ 7) (hx : x < 10 ^ k) :
    evP F (Go.Ab.W F) (JW F d29 []) d29 [] [1,1,1,0,0,0,1,0,1,1,1,0] [(0, .d (.str t)), (3, .own z 3 1 xs), (4, iI i), (5, iB b), (6, iI x), (7, iI k)]
      = some (.norm [(0, .d (.str t)), (3, .own z 3 1 xs), (4, iI ((t.size - (digF (t.data.toList.drop i) x k).2.2.length : Nat) : Int)), (5, iB b), (6, iI ((digF (t.data.toList.drop i) x k).1 : Nat)), (7, iI ((digF (t.data.toList.drop i) x k).2.1 : Nat))]) := by
  have hl : t.data.toList.length = t.size := ba_len t
  exact blk_fun (F := F) (d := d29) (lk := []) (p := [1,1,1,0,0,0,1,0,1,1,1,0,0,0]) (p0 := [1,1,1,0,0,0,1,0,1,1,1,0]) (id := 2) (by kernel_rfl) (st := fun (y : Nat × Nat × Nat) => [(0, .d (.str t)), (3, .own z 3 1 xs), (4, iI y.1), (5, iB b), (6, iI y.2.1), (7, iI y.2.2)]) (I := fun y => y.1 ≤ t.size ∧ y.2.2 ≤ 7 ∧ y.2.1 < 10 ^ y.2.2) (μ := fun y => t.size - y.1)
    (res := fun y => .norm [(0, .d (.str t)), (3, .own z 3 1 xs), (4, iI ((t.size - (digF (t.data.toList.drop y.1) y.2.1 y.2.2).2.2.length : Nat) : Int)), (5, iB b), (6, iI ((digF (t.data.toList.drop y.1) y.2.1 y.2.2).1 : Nat)), (7, iI ((digF (t.data.toList.drop y.1) y.2.1 y.2.2).2.1 : Nat))])
    (fun y hy => by
      obtain ⟨i, x, k⟩ := y
      obtain ⟨h1, h2, h3⟩ := hy
      dsimp only at h1 h2 h3 ⊢
      have hp : (10 : Nat) ^ k ≤ 10 ^ 7 := Nat.pow_le_pow_right (by omega) h2
      have hp7 : (10 : Nat) ^ 7 = 10000000 := by decide
      by_cases hlt : i < t.size
      · obtain ⟨c, hc⟩ := at_lt (l := t.data.toList) (i := i) (by omega)
        have hb := byteAt_nat hc
        have hd := drop_cons hc
        have hlen : (t.data.toList.drop i).length = t.size - i := by rw [List.length_drop, hl]
        have c0 : (i : Int) < (t.size : Int) := by omega
        have c1 : (0 : Int) ≤ (i : Int) := by omega
        by_cases hdig : 48 ≤ c.toNat ∧ c.toNat ≤ 57 ∧ k < 7
        · refine .go (i + 1, x * 10 + (c.toNat - 48), k + 1) (wpQ_way (q29_l2a _ _ t z xs i b x k _) ?_) ⟨by dsimp only; omega, by dsimp only; omega, by dsimp only; rw [Nat.pow_succ]; omega⟩ (by dsimp only; omega) ?_
          · have e1 : IntKind.wrap .i64 ((i : Int) + 1) = ((i + 1 : Nat) : Int) := by rw [Go.Ab.wr _ (by omega) (by omega)]; omega
            have e2 : IntKind.wrap .i64 ((k : Int) + 1) = ((k + 1 : Nat) : Int) := by rw [Go.Ab.wr _ (by omega) (by omega)]; omega
            have e3 : IntKind.wrap .i64 (IntKind.wrap .i64 ((x : Int) * 10) + IntKind.wrap .i64 (IntKind.wrap .u8 (byteAt t (Int.toNat (i : Int)) - 48))) = ((x * 10 + (c.toNat - 48) : Nat) : Int) := by
              rw [hb, wrap_digit hdig.1 hdig.2.1, Go.Ab.wr ((x : Int) * 10) (by omega) (by omega), Go.Ab.wr _ (by omega) (by omega)]
              omega
            refine condW_t (decide_eq_true c0) (condW_t (decide_eq_true c1) (condW_t (decide_eq_true c0) (condW_t (decide_eq_true (by rw [hb]; omega)) (condW_t (decide_eq_true c1) (condW_t (decide_eq_true c0) (condW_t (decide_eq_true (by rw [hb]; omega)) (condW_t (decide_eq_true (by omega)) (condW_t (decide_eq_true c1) (condW_t (decide_eq_true c0) ?_)))))))))
            rw [e1, e2, e3]
          · dsimp only
            have e : digF (t.data.toList.drop i) x k = digF (t.data.toList.drop (i + 1)) (x * 10 + (c.toNat - 48)) (k + 1) := by
              rw [hd]
              show (if 48 ≤ c.toNat ∧ c.toNat ≤ 57 ∧ k < 7 then digF (t.data.toList.drop (i + 1)) (x * 10 + (c.toNat - 48)) (k + 1) else _) = _
              rw [if_pos hdig]
            rw [e]
        · have e : digF (t.data.toList.drop i) x k = (x, k, t.data.toList.drop i) := by
            rw [hd]
            show (if 48 ≤ c.toNat ∧ c.toNat ≤ 57 ∧ k < 7 then _ else (x, k, c :: t.data.toList.drop (i + 1))) = _
            rw [if_neg hdig]
          refine .stop (.exit 2 [(0, .d (.str t)), (3, .own z 3 1 xs), (4, iI i), (5, iB b), (6, iI x), (7, iI k)]) (wpQ_way (q29_l2a _ _ t z xs i b x k _) ?_) rfl ?_
          · refine condW_t (decide_eq_true c0) (condW_t (decide_eq_true c1) (condW_t (decide_eq_true c0) ?_))
            by_cases d1 : 48 ≤ c.toNat
            · refine condW_t (decide_eq_true (by rw [hb]; omega)) (condW_t (decide_eq_true c1) (condW_t (decide_eq_true c0) ?_))
              by_cases d2 : c.toNat ≤ 57
              · refine condW_t (decide_eq_true (by rw [hb]; omega)) (condW_f (decide_eq_false (by omega)) rfl)
              · exact condW_f (decide_eq_false (by rw [hb]; omega)) rfl
            · exact condW_f (decide_eq_false (by rw [hb]; omega)) rfl
          · dsimp only
            rw [e]
            dsimp only
            rw [hlen, show t.size - (t.size - i) = i by omega]
            rfl
      · have e1 : i = t.size := by omega
        subst e1
        refine .stop (.exit 2 [(0, .d (.str t)), (3, .own z 3 1 xs), (4, iI t.size), (5, iB b), (6, iI x), (7, iI k)]) (wpQ_way (q29_l2a _ _ t z xs t.size b x k _) ?_) rfl ?_
        · exact condW_f (decide_eq_false (by omega)) rfl
        · have e2 : t.data.toList.drop t.size = [] := List.drop_of_length_le (by omega)
          dsimp only
          rw [e2]
          rfl) (i, x, k) ⟨hi, hk, hx⟩
theorem ints_snoc (l : List Int) (x : Int) : ints l ++ [.int .i64 x] = ints (l ++ [x]) := by simp [ints]
theorem snoc_empty (l : List Int) (x : Int) : (l ++ [x]).isEmpty = false := by cases l <;> rfl
/-- A word is read: what the outer loop's turn does. -/
theorem w_fwords {t : ByteArray} (ht : t.size ≤ 4000) : C 29 [.d (.str t)] = some (.own (wordsL t.data.toList).isEmpty 3 1 (ints (wordsL t.data.toList)), [.d (.str t)]) := by
  refine wfn (lk := []) rfl rfl (fnW_way (q29 _ _ t _) ?_)
  have hl : t.data.toList.length = t.size := ba_len t
  obtain ⟨o, h1, h2⟩ := blk_rule (F := F) (d := d29) (lk := []) (p := [1,1,1,0,0,0]) (p0 := [1,1,1,0]) 0 (by kernel_rfl) (fun (y : List Int × Nat) => [(0, .d (.str t)), (3, .own y.1.isEmpty 3 1 (ints y.1)), (4, iI y.2)]) (fun y => y.2 ≤ t.size + 1 ∧ y.1.length ≤ y.2) (fun y => t.size + 1 - y.2)
    (fun y o => o = .ret [(2, .own (y.1 ++ wordsL (t.data.toList.drop y.2)).isEmpty 3 1 (ints (y.1 ++ wordsL (t.data.toList.drop y.2))))] ∨ ∃ n : Int, o = .norm [(0, .d (.str t)), (3, .own (y.1 ++ wordsL (t.data.toList.drop y.2)).isEmpty 3 1 (ints (y.1 ++ wordsL (t.data.toList.drop y.2)))), (4, iI n)])
    (fun y hy => by
      obtain ⟨out, i⟩ := y
      obtain ⟨i1, i2⟩ := hy
      dsimp only at i1 i2 ⊢
      by_cases hlt : i < t.size
      rotate_left
      · refine .inr ⟨.exit 0 [(0, .d (.str t)), (3, .own out.isEmpty 3 1 (ints out)), (4, iI i)], wpQ_way (q29_l0a _ _ t out.isEmpty (ints out) i _) (condW_f (decide_eq_false (by omega)) rfl), rfl, .inr ⟨i, ?_⟩⟩
        have e2 : t.data.toList.drop i = [] := List.drop_of_length_le (by omega)
        have e3 : wordsL [] = [] := by rw [wordsL, dif_pos rfl]
        rw [e2, e3, List.append_nil]
        rfl
      obtain ⟨c, hc⟩ := at_lt (l := t.data.toList) (i := i) (by omega)
      have hb := byteAt_nat hc
      have hd := drop_cons hc
      have hne : t.data.toList.drop i ≠ [] := by rw [hd]; simp
      -- the number
      obtain ⟨i', hi', hs1, hs2, hcs⟩ : ∃ i' : Nat, i' ≤ t.size ∧ i ≤ i' ∧ (signF (t.data.toList.drop i)).2 = t.data.toList.drop i' ∧ (((signF (t.data.toList.drop i)).1 = true ∧ c = 45 ∧ i' = i + 1) ∨ ((signF (t.data.toList.drop i)).1 = false ∧ c ≠ 45 ∧ i' = i)) := by
        rw [hd]
        by_cases h45 : c = 45
        · refine ⟨i + 1, by omega, by omega, ?_, .inl ⟨?_, h45, rfl⟩⟩
          · show (if c = 45 then (true, t.data.toList.drop (i + 1)) else _).2 = _
            rw [if_pos h45]
          · show (if c = 45 then (true, t.data.toList.drop (i + 1)) else _).1 = _
            rw [if_pos h45]
        · refine ⟨i, by omega, by omega, ?_, .inr ⟨?_, h45, rfl⟩⟩
          · show (if c = 45 then (true, t.data.toList.drop (i + 1)) else (false, c :: t.data.toList.drop (i + 1))).2 = _
            rw [if_neg h45, hd]
          · show (if c = 45 then (true, t.data.toList.drop (i + 1)) else (false, c :: t.data.toList.drop (i + 1))).1 = _
            rw [if_neg h45]
      have inner := l_digs ht out.isEmpty (ints out) (signF (t.data.toList.drop i)).1 i' 0 0 hi' (by omega) (by decide)
      have hsm := digF_small (t.data.toList.drop i') 0 0 (by omega) (by decide)
      have hsuf := digF_suf (t.data.toList.drop i') 0 0
      have hnum : numR (t.data.toList.drop i) = (if (signF (t.data.toList.drop i)).1 = true then -((digF (t.data.toList.drop i') 0 0).1 : Int) else ((digF (t.data.toList.drop i') 0 0).1 : Int), (digF (t.data.toList.drop i') 0 0).2.1, (digF (t.data.toList.drop i') 0 0).2.2) := by
        unfold numR
        rw [hs2]
      have hlenr := digF_len (t.data.toList.drop i') 0 0
      rw [List.length_drop, hl] at hlenr
      generalize hD : digF (t.data.toList.drop i') 0 0 = D0 at inner hsm hsuf hnum hlenr
      obtain ⟨x, k, rest⟩ := D0
      dsimp only at inner hsm hsuf hnum hlenr
      generalize hsg : (signF (t.data.toList.drop i)).1 = sg at inner hnum hcs
      have hx : x < 10000000 := by
        have h1 : (10 : Nat) ^ k ≤ 10 ^ 7 := Nat.pow_le_pow_right (by omega) hsm.2
        have h2 : (10 : Nat) ^ 7 = 10000000 := by decide
        omega
      have hrest : rest = t.data.toList.drop (t.size - rest.length) := by
        have h1 := List.suffix_iff_eq_drop.1 (hsuf.trans (List.drop_suffix i' t.data.toList))
        rw [hl] at h1
        exact h1
      -- what comes behind the number
      have tail : ∀ (v : Int), (if sg = true then -(x : Int) else (x : Int)) = v → ¬ k = 0 → ¬ k = 7 →
          wordsL (t.data.toList.drop i) = v :: (if rest.head? = some 32 then wordsL rest.tail else []) := fun v hv h0 h7 => by
        rw [wordsL, dif_neg hne, hnum]
        dsimp only
        rw [if_neg (by omega), hv]
        simp
      -- the turn
      generalize hj : t.size - rest.length = j at inner hrest
      have hj2 : j ≤ t.size := by omega
      have hval : (if sg = true then IntKind.wrap .i64 (0 - (x : Int)) else (x : Int)) = (if sg = true then -(x : Int) else (x : Int)) := by
        cases sg
        · rfl
        · simp only [if_true]
          rw [Go.Ab.wr _ (by omega) (by omega)]; omega
      have start : ∀ o, (condW ((k : Int) == 0) (Out.ret [(2, .own out.isEmpty 3 1 (ints out))] = o) (condW ((k : Int) == 7) (Out.ret [(2, .own out.isEmpty 3 1 (ints out))] = o)
          (if (j : Int) < t.size then condW (byteAt t (Int.toNat (j : Int)) != 32) (Out.ret [(2, .own (out.isEmpty && false) 3 1 (ints out ++ [.int .i64 (if sg = true then IntKind.wrap .i64 (0 - (x : Int)) else (x : Int))]))] = o) (Out.norm [(0, .d (.str t)), (3, .own (out.isEmpty && false) 3 1 (ints out ++ [.int .i64 (if sg = true then IntKind.wrap .i64 (0 - (x : Int)) else (x : Int))])), (4, iI (IntKind.wrap .i64 ((j : Int) + 1)))] = o)
           else Out.norm [(0, .d (.str t)), (3, .own (out.isEmpty && false) 3 1 (ints out ++ [.int .i64 (if sg = true then IntKind.wrap .i64 (0 - (x : Int)) else (x : Int))])), (4, iI (IntKind.wrap .i64 ((j : Int) + 1)))] = o))) →
          evP F (Go.Ab.W F) (JW F d29 []) d29 [] [1,1,1,0,0,0] [(0, .d (.str t)), (3, .own out.isEmpty 3 1 (ints out)), (4, iI i)] = some o := fun o hK => by
        refine wpQ_way (q29_l0a _ _ t out.isEmpty (ints out) i _) ?_
        refine condW_t (decide_eq_true (by omega)) (condW_t (decide_eq_true (by omega)) (condW_t (decide_eq_true (by omega)) ?_))
        have k1 : (ints out).length + (0 + 1) ≤ 9223372036854775807 := by rw [ints_len]; omega
        have k2 : ((ints out).length + (0 + 1)) * 8 ≤ 140737488355328 := by rw [ints_len]; omega
        have hK2 : condW ((k : Int) == 0) (Out.ret [(2, .own out.isEmpty 3 1 (ints out))] = o) (condW ((k : Int) == 7) (Out.ret [(2, .own out.isEmpty 3 1 (ints out))] = o) (condW sg
            (condW (decide ((ints out).length + (0 + 1) ≤ 9223372036854775807)) (condW (decide (((ints out).length + (0 + 1)) * 8 ≤ 140737488355328)) (condW (decide ((j : Int) < t.size)) (condW (decide (0 ≤ (j : Int))) (condW (decide ((j : Int) < t.size)) (condW (byteAt t (Int.toNat (j : Int)) != 32) (Out.ret [(2, .own (out.isEmpty && false) 3 1 (ints out ++ [.int .i64 (IntKind.wrap .i64 (0 - (x : Int)))]))] = o) (Out.norm [(0, .d (.str t)), (3, .own (out.isEmpty && false) 3 1 (ints out ++ [.int .i64 (IntKind.wrap .i64 (0 - (x : Int)))])), (4, iI (IntKind.wrap .i64 ((j : Int) + 1)))] = o)) False) False) (Out.norm [(0, .d (.str t)), (3, .own (out.isEmpty && false) 3 1 (ints out ++ [.int .i64 (IntKind.wrap .i64 (0 - (x : Int)))])), (4, iI (IntKind.wrap .i64 ((j : Int) + 1)))] = o)) False) False)
            (condW (decide ((ints out).length + (0 + 1) ≤ 9223372036854775807)) (condW (decide (((ints out).length + (0 + 1)) * 8 ≤ 140737488355328)) (condW (decide ((j : Int) < t.size)) (condW (decide (0 ≤ (j : Int))) (condW (decide ((j : Int) < t.size)) (condW (byteAt t (Int.toNat (j : Int)) != 32) (Out.ret [(2, .own (out.isEmpty && false) 3 1 (ints out ++ [.int .i64 (x : Int)]))] = o) (Out.norm [(0, .d (.str t)), (3, .own (out.isEmpty && false) 3 1 (ints out ++ [.int .i64 (x : Int)])), (4, iI (IntKind.wrap .i64 ((j : Int) + 1)))] = o)) False) False) (Out.norm [(0, .d (.str t)), (3, .own (out.isEmpty && false) 3 1 (ints out ++ [.int .i64 (x : Int)])), (4, iI (IntKind.wrap .i64 ((j : Int) + 1)))] = o)) False) False))) := by
          cases q0 : ((k : Int) == 0) with
          | true => rw [q0] at hK; exact condW_t rfl hK
          | false =>
            rw [q0] at hK
            refine condW_f rfl ?_
            have hK : condW ((k : Int) == 7) _ _ := hK
            cases q7 : ((k : Int) == 7) with
            | true => rw [q7] at hK; exact condW_t rfl hK
            | false =>
              rw [q7] at hK
              refine condW_f rfl ?_
              have hK : (if (j : Int) < t.size then _ else _) := hK
              cases sg with
              | true =>
                simp only [if_true] at hK
                refine condW_t rfl (condW_t (decide_eq_true k1) (condW_t (decide_eq_true k2) ?_))
                by_cases hj3 : (j : Int) < t.size
                · rw [if_pos hj3] at hK
                  exact condW_t (decide_eq_true hj3) (condW_t (decide_eq_true (by omega)) (condW_t (decide_eq_true hj3) hK))
                · rw [if_neg hj3] at hK
                  exact condW_f (decide_eq_false hj3) hK
              | false =>
                simp only [Bool.false_eq_true, if_false] at hK
                refine condW_f rfl (condW_t (decide_eq_true k1) (condW_t (decide_eq_true k2) ?_))
                by_cases hj3 : (j : Int) < t.size
                · rw [if_pos hj3] at hK
                  exact condW_t (decide_eq_true hj3) (condW_t (decide_eq_true (by omega)) (condW_t (decide_eq_true hj3) hK))
                · rw [if_neg hj3] at hK
                  exact condW_f (decide_eq_false hj3) hK
        have hwi : IntKind.wrap .i64 ((i : Int) + 1) = ((i + 1 : Nat) : Int) := by rw [Go.Ab.wr _ (by omega) (by omega)]; omega
        rcases hcs with ⟨hsg2, h45, rfl⟩ | ⟨hsg2, h45, rfl⟩
        · subst hsg2
          rw [hwi]
          exact condW_t (by rw [hb, h45]; rfl) ⟨_, _, _, _, _, _, _, inner, hK2⟩
        · subst hsg2
          refine condW_f (by rw [hb, beq_eq_false_iff_ne]; intro h; exact h45 (UInt8.toNat_inj.1 (by have : (45 : UInt8).toNat = 45 := rfl; omega))) ⟨_, _, _, _, _, _, _, inner, hK2⟩
      rw [hval] at start
      generalize hv : (if sg = true then -(x : Int) else (x : Int)) = v at start tail
      have tail := tail v rfl
      by_cases hk0 : k = 0 ∨ k = 7
      · have e0 : wordsL (t.data.toList.drop i) = [] := by
          rw [wordsL, dif_neg hne, hnum]
          dsimp only
          rw [if_pos hk0]
        refine .inr ⟨.ret [(2, .own out.isEmpty 3 1 (ints out))], start _ ?_, rfl, .inl ?_⟩
        · rcases hk0 with rfl | rfl
          · exact condW_t rfl rfl
          · exact condW_f rfl (condW_t rfl rfl)
        · rw [e0, List.append_nil]
          rfl
      have n0 : ¬ k = 0 := fun h => hk0 (.inl h)
      have n7 : ¬ k = 7 := fun h => hk0 (.inr h)
      have tl := tail n0 n7
      have f0 : ((k : Int) == 0) = false := by rw [beq_eq_false_iff_ne]; omega
      have f7 : ((k : Int) == 7) = false := by rw [beq_eq_false_iff_ne]; omega
      have hwj : IntKind.wrap .i64 ((j : Int) + 1) = ((j + 1 : Nat) : Int) := by rw [Go.Ab.wr _ (by omega) (by omega)]; omega
      rw [Bool.and_false, ints_snoc, hwj] at start
      by_cases hr0 : rest = []
      · -- the end of the text
        have hj3 : j = t.size := by rw [hr0] at hj; simpa using hj.symm
        refine .inl ⟨(out ++ [v], j + 1), ?_, ⟨by dsimp only; omega, by simp; omega⟩, by dsimp only; omega, ?_⟩
        · rw [snoc_empty]
          exact start _ (condW_f f0 (condW_f f7 (by rw [if_neg (by omega)])))
        · intro o ho
          have e1 : wordsL (t.data.toList.drop (j + 1)) = [] := by
            rw [List.drop_of_length_le (by omega), wordsL, dif_pos rfl]
          rw [hr0] at tl
          simp only [List.head?_nil, reduceCtorEq, if_false] at tl
          dsimp only at ho
          rw [e1, List.append_nil] at ho
          rw [tl]
          exact ho
      · obtain ⟨e, r', hr⟩ : ∃ e r', rest = e :: r' := by
          cases rest with
          | nil => exact (hr0 rfl).elim
          | cons e r' => exact ⟨e, r', rfl⟩
        have hj3 : j < t.size := by
          rw [hr] at hj
          simp only [List.length_cons] at hj
          omega
        have he : t.data.toList[j]? = some e := by
          have h1 : (t.data.toList.drop j)[0]? = some e := by rw [← hrest, hr]; rfl
          rwa [List.getElem?_drop, Nat.add_zero] at h1
        have hbe := byteAt_nat he
        by_cases h32 : e = 32
        · refine .inl ⟨(out ++ [v], j + 1), ?_, ⟨by dsimp only; omega, by simp; omega⟩, by dsimp only; omega, ?_⟩
          · rw [snoc_empty]
            exact start _ (condW_f f0 (condW_f f7 (by rw [if_pos (by omega)]; exact condW_f (by rw [hbe, h32]; rfl) rfl)))
          · intro o ho
            have e1 : t.data.toList.drop (j + 1) = r' := by
              have h1 := drop_cons he
              rw [← hrest, hr] at h1
              simp only [List.cons.injEq, true_and] at h1
              exact h1.symm
            rw [hr] at tl
            simp only [List.head?_cons, h32, if_true, List.tail_cons] at tl
            dsimp only at ho
            rw [e1, List.append_assoc, List.singleton_append] at ho
            rw [tl]
            exact ho
        · refine .inr ⟨.ret [(2, .own false 3 1 (ints (out ++ [v])))], start _ (condW_f f0 (condW_f f7 (by rw [if_pos (by omega)]; exact condW_t (by rw [hbe, bne_iff_ne]; intro h; exact h32 (UInt8.toNat_inj.1 (by have : (32 : UInt8).toNat = 32 := rfl; omega))) rfl))), rfl, .inl ?_⟩
          rw [hr] at tl
          simp only [List.head?_cons, Option.some.injEq, h32, if_false] at tl
          rw [tl, snoc_empty]
          rfl) ([], 0) ⟨by dsimp only; omega, by simp⟩
  simp only [List.nil_append, List.drop_zero] at h2
  rcases h2 with rfl | ⟨n, rfl⟩
  · exact .inl ⟨_, _, h1, rfl⟩
  · exact .inr ⟨_, _, _, _, h1, rfl⟩
end Go.Proofs.YtjoibdmiolcodaaGreatDoor.Ab

/- Written by a program of this session (wip/tools/AbSym.lean). Not trusted: Lean checks it. -/
set_option maxRecDepth 100000
set_option linter.unusedVariables false
namespace Go.Proofs.YtjoibdmiolcodaaGreatDoor.Ab
open Go Go.Ab Go.Proofs
def L4 : Lps := fun b => match b with
  | _ => [.norm []]
theorem q4 (C J) (z1 : Bool) (x2 : List D) (e3 : List D) (s4 : ByteArray) (Q) : fnW F C R (L4) J d4 [.d (.sl 4 z1 x2 e3), .d (.str s4)] Q = (condW (decide ((↑(ByteArray.size s4) : Int) > 4000)) (Q (some (IV.d (D.bool true), [IV.d (D.sl 4 z1 x2 e3), IV.d (D.str s4)]))) ((∃ w0 w1 w2 w3 w4 w5 w6 w7 w8 w9, C 13 [IV.d (D.sl 4 z1 x2 e3), IV.d (D.str s4)] = some (IV.tup [IV.d (D.agg [D.int IntKind.i64 w0, D.int IntKind.i64 w1, D.int IntKind.i64 w2, D.int IntKind.i64 w3, D.int IntKind.i64 w4, D.int IntKind.i64 w5, D.int IntKind.i64 w6, D.sl 2 true [] [], D.sl 1 true [] [], D.sl 2 true [] []]), IV.d (D.int IntKind.i64 w7)], [IV.d w8, IV.d w9]) ∧ ((∃ w10 w11 w12 w13 w14 w15 w16 w17 w18 w19, C 14 [IV.d (D.sl 4 z1 x2 e3), IV.d (D.str s4)] = some (IV.tup [IV.d (D.agg [D.int IntKind.i64 w10, D.int IntKind.i64 w11, D.int IntKind.i64 w12, D.int IntKind.i64 w13, D.int IntKind.i64 w14, D.int IntKind.i64 w15, D.int IntKind.i64 w16, D.sl 2 true [] [], D.sl 1 true [] [], D.sl 2 true [] []]), IV.d (D.int IntKind.i64 w17)], [IV.d w18, IV.d w19]) ∧ ∃ w20 w21 w22, C 15 [IV.d (D.agg [D.int IntKind.i64 w0, D.int IntKind.i64 w1, D.int IntKind.i64 w2, D.int IntKind.i64 w3, D.int IntKind.i64 w4, D.int IntKind.i64 w5, D.int IntKind.i64 w6, D.sl 2 true [] [], D.sl 1 true [] [], D.sl 2 true [] []]), IV.d (D.agg [D.int IntKind.i64 w10, D.int IntKind.i64 w11, D.int IntKind.i64 w12, D.int IntKind.i64 w13, D.int IntKind.i64 w14, D.int IntKind.i64 w15, D.int IntKind.i64 w16, D.sl 2 true [] [], D.sl 1 true [] [], D.sl 2 true [] []])] = some (IV.d (D.bool w20), [IV.d w21, IV.d w22]) ∧ condW w20 (∃ w23 w24, C 10 [IV.d (D.int IntKind.i64 w7)] = some (IV.d (D.int IntKind.i64 w23), [IV.d w24]) ∧ condW (w23 == w17) (∃ w25, C 12 [] = some (IV.d (D.bool w25), []) ∧ condW w25 (Q (some (IV.d (D.bool true), [IV.d (D.sl 4 z1 x2 e3), IV.d (D.str s4)]))) (Q (some (IV.d (D.bool false), [IV.d (D.sl 4 z1 x2 e3), IV.d (D.str s4)])))) (Q (some (IV.d (D.bool false), [IV.d (D.sl 4 z1 x2 e3), IV.d (D.str s4)])))) (Q (some (IV.d (D.bool false), [IV.d (D.sl 4 z1 x2 e3), IV.d (D.str s4)])))) ∨ ∃ w26 w27 w28 w29 w30 w31 w32 w33 w34 w35 w36 w37 w38 w39 w40 w41, C 14 [IV.d (D.sl 4 z1 x2 e3), IV.d (D.str s4)] = some (IV.tup [IV.agg [IV.d (D.int IntKind.i64 w26), IV.d (D.int IntKind.i64 w27), IV.d (D.int IntKind.i64 w28), IV.d (D.int IntKind.i64 w29), IV.d (D.int IntKind.i64 w30), IV.d (D.int IntKind.i64 w31), IV.d (D.int IntKind.i64 w32), IV.own w33 55 2 w34, IV.own w35 48 1 w36, IV.own w37 55 2 w38], IV.d (D.int IntKind.i64 w39)], [IV.d w40, IV.d w41]) ∧ ∃ w42 w43 w44, C 15 [IV.d (D.agg [D.int IntKind.i64 w0, D.int IntKind.i64 w1, D.int IntKind.i64 w2, D.int IntKind.i64 w3, D.int IntKind.i64 w4, D.int IntKind.i64 w5, D.int IntKind.i64 w6, D.sl 2 true [] [], D.sl 1 true [] [], D.sl 2 true [] []]), IV.d (D.agg [D.int IntKind.i64 w26, D.int IntKind.i64 w27, D.int IntKind.i64 w28, D.int IntKind.i64 w29, D.int IntKind.i64 w30, D.int IntKind.i64 w31, D.int IntKind.i64 w32, D.sl 2 w33 w34 [], D.sl 1 w35 w36 [], D.sl 2 w37 w38 []])] = some (IV.d (D.bool w42), [IV.d w43, IV.d w44]) ∧ condW w42 (∃ w45 w46, C 10 [IV.d (D.int IntKind.i64 w7)] = some (IV.d (D.int IntKind.i64 w45), [IV.d w46]) ∧ condW (w45 == w39) (∃ w47, C 12 [] = some (IV.d (D.bool w47), []) ∧ condW w47 (Q (some (IV.d (D.bool true), [IV.d (D.sl 4 z1 x2 e3), IV.d (D.str s4)]))) (Q (some (IV.d (D.bool false), [IV.d (D.sl 4 z1 x2 e3), IV.d (D.str s4)])))) (Q (some (IV.d (D.bool false), [IV.d (D.sl 4 z1 x2 e3), IV.d (D.str s4)])))) (Q (some (IV.d (D.bool false), [IV.d (D.sl 4 z1 x2 e3), IV.d (D.str s4)]))))) ∨ ∃ w48 w49 w50 w51 w52 w53 w54 w55 w56 w57 w58 w59 w60 w61 w62 w63, C 13 [IV.d (D.sl 4 z1 x2 e3), IV.d (D.str s4)] = some (IV.tup [IV.agg [IV.d (D.int IntKind.i64 w48), IV.d (D.int IntKind.i64 w49), IV.d (D.int IntKind.i64 w50), IV.d (D.int IntKind.i64 w51), IV.d (D.int IntKind.i64 w52), IV.d (D.int IntKind.i64 w53), IV.d (D.int IntKind.i64 w54), IV.own w55 55 2 w56, IV.own w57 48 1 w58, IV.own w59 55 2 w60], IV.d (D.int IntKind.i64 w61)], [IV.d w62, IV.d w63]) ∧ ((∃ w64 w65 w66 w67 w68 w69 w70 w71 w72 w73, C 14 [IV.d (D.sl 4 z1 x2 e3), IV.d (D.str s4)] = some (IV.tup [IV.d (D.agg [D.int IntKind.i64 w64, D.int IntKind.i64 w65, D.int IntKind.i64 w66, D.int IntKind.i64 w67, D.int IntKind.i64 w68, D.int IntKind.i64 w69, D.int IntKind.i64 w70, D.sl 2 true [] [], D.sl 1 true [] [], D.sl 2 true [] []]), IV.d (D.int IntKind.i64 w71)], [IV.d w72, IV.d w73]) ∧ ∃ w74 w75 w76, C 15 [IV.d (D.agg [D.int IntKind.i64 w48, D.int IntKind.i64 w49, D.int IntKind.i64 w50, D.int IntKind.i64 w51, D.int IntKind.i64 w52, D.int IntKind.i64 w53, D.int IntKind.i64 w54, D.sl 2 w55 w56 [], D.sl 1 w57 w58 [], D.sl 2 w59 w60 []]), IV.d (D.agg [D.int IntKind.i64 w64, D.int IntKind.i64 w65, D.int IntKind.i64 w66, D.int IntKind.i64 w67, D.int IntKind.i64 w68, D.int IntKind.i64 w69, D.int IntKind.i64 w70, D.sl 2 true [] [], D.sl 1 true [] [], D.sl 2 true [] []])] = some (IV.d (D.bool w74), [IV.d w75, IV.d w76]) ∧ condW w74 (∃ w77 w78, C 10 [IV.d (D.int IntKind.i64 w61)] = some (IV.d (D.int IntKind.i64 w77), [IV.d w78]) ∧ condW (w77 == w71) (∃ w79, C 12 [] = some (IV.d (D.bool w79), []) ∧ condW w79 (Q (some (IV.d (D.bool true), [IV.d (D.sl 4 z1 x2 e3), IV.d (D.str s4)]))) (Q (some (IV.d (D.bool false), [IV.d (D.sl 4 z1 x2 e3), IV.d (D.str s4)])))) (Q (some (IV.d (D.bool false), [IV.d (D.sl 4 z1 x2 e3), IV.d (D.str s4)])))) (Q (some (IV.d (D.bool false), [IV.d (D.sl 4 z1 x2 e3), IV.d (D.str s4)])))) ∨ ∃ w80 w81 w82 w83 w84 w85 w86 w87 w88 w89 w90 w91 w92 w93 w94 w95, C 14 [IV.d (D.sl 4 z1 x2 e3), IV.d (D.str s4)] = some (IV.tup [IV.agg [IV.d (D.int IntKind.i64 w80), IV.d (D.int IntKind.i64 w81), IV.d (D.int IntKind.i64 w82), IV.d (D.int IntKind.i64 w83), IV.d (D.int IntKind.i64 w84), IV.d (D.int IntKind.i64 w85), IV.d (D.int IntKind.i64 w86), IV.own w87 55 2 w88, IV.own w89 48 1 w90, IV.own w91 55 2 w92], IV.d (D.int IntKind.i64 w93)], [IV.d w94, IV.d w95]) ∧ ∃ w96 w97 w98, C 15 [IV.d (D.agg [D.int IntKind.i64 w48, D.int IntKind.i64 w49, D.int IntKind.i64 w50, D.int IntKind.i64 w51, D.int IntKind.i64 w52, D.int IntKind.i64 w53, D.int IntKind.i64 w54, D.sl 2 w55 w56 [], D.sl 1 w57 w58 [], D.sl 2 w59 w60 []]), IV.d (D.agg [D.int IntKind.i64 w80, D.int IntKind.i64 w81, D.int IntKind.i64 w82, D.int IntKind.i64 w83, D.int IntKind.i64 w84, D.int IntKind.i64 w85, D.int IntKind.i64 w86, D.sl 2 w87 w88 [], D.sl 1 w89 w90 [], D.sl 2 w91 w92 []])] = some (IV.d (D.bool w96), [IV.d w97, IV.d w98]) ∧ condW w96 (∃ w99 w100, C 10 [IV.d (D.int IntKind.i64 w61)] = some (IV.d (D.int IntKind.i64 w99), [IV.d w100]) ∧ condW (w99 == w93) (∃ w101, C 12 [] = some (IV.d (D.bool w101), []) ∧ condW w101 (Q (some (IV.d (D.bool true), [IV.d (D.sl 4 z1 x2 e3), IV.d (D.str s4)]))) (Q (some (IV.d (D.bool false), [IV.d (D.sl 4 z1 x2 e3), IV.d (D.str s4)])))) (Q (some (IV.d (D.bool false), [IV.d (D.sl 4 z1 x2 e3), IV.d (D.str s4)])))) (Q (some (IV.d (D.bool false), [IV.d (D.sl 4 z1 x2 e3), IV.d (D.str s4)])))))) := by kernel_rfl
end Go.Proofs.YtjoibdmiolcodaaGreatDoor.Ab

/- StepReads: the law. For every input; no condition. -/
set_option linter.unusedVariables false
set_option linter.unusedSimpArgs false
set_option maxRecDepth 100000
namespace Go.Proofs.YtjoibdmiolcodaaGreatDoor.Ab
open Go Go.Ab Go.Qu Go.Proofs
attribute [local simp] and_assoc
abbrev iCu (xs rem : List Int) (b : Bool) : IV := .dbox 68 0 [.sl 1 xs.isEmpty (ints xs) [], .int .i64 ((xs.length - rem.length : Nat) : Int), .bool b]
/-- What is read: few numbers, small ones. -/
def XsOk (xs : List Int) : Prop := xs.length ≤ 4000 ∧ ∀ x ∈ xs, Sm x
theorem w_next {xs rem : List Int} (h : XsOk xs) (hs : rem <:+ xs) (b : Bool) : C 30 [iCu xs rem b] = some (iI (nextR rem b).1, [iCu xs (nextR rem b).2.1 (nextR rem b).2.2]) := by
  refine wfn (lk := [0]) rfl rfl (fnW_way (q30 _ _ xs.isEmpty (ints xs) [] ((xs.length - rem.length : Nat) : Int) b _) ?_)
  have hl := hs.length_le
  have hx := h.1
  cases rem with
  | nil =>
    exact condW_t (decide_eq_true (by rw [ints_len]; simp)) rfl
  | cons x r =>
    have hd := List.suffix_iff_eq_drop.1 hs
    simp only [List.length_cons] at hl hd
    have hw1 : IntKind.wrap .i64 (((xs.length - (x :: r).length : Nat) : Int) + 1) = ((xs.length - r.length : Nat) : Int) := by
      simp only [List.length_cons]
      rw [Go.Ab.wr _ (by omega) (by omega)]; omega
    have hw2 : IntKind.wrap .i64 (((xs.length - r.length : Nat) : Int) - 1) = ((xs.length - (r.length + 1) : Nat) : Int) := by
      rw [Go.Ab.wr _ (by omega) (by omega)]; omega
    have hget : xs[xs.length - (r.length + 1)]? = some x := by
      have h1 : (xs.drop (xs.length - (r.length + 1)))[0]? = some x := by rw [← hd]; rfl
      rwa [List.getElem?_drop, Nat.add_zero] at h1
    rw [hw1, hw2]
    refine condW_f (decide_eq_false (by rw [ints_len]; simp only [List.length_cons]; omega)) (condW_t (decide_eq_true (by omega)) ?_)
    rw [Int.toNat_natCast]
    exact ⟨_, ints_get hget, rfl⟩
theorem next_small {xs rem : List Int} (h : XsOk xs) (hs : rem <:+ xs) (b : Bool) : (nextR rem b).1 < 1000000 := by
  cases rem with
  | nil => show (0 : Int) < _; omega
  | cons x r => exact (h.2 x (hs.subset (by simp))).2
theorem w_frow {xs rem : List Int} (h : XsOk xs) (hs : rem <:+ xs) (b : Bool) : C 32 [iCu xs rem b] = some (.own (rowR rem b).1.isEmpty 3 1 (ints (rowR rem b).1), [iCu xs (rowR rem b).2.1 (rowR rem b).2.2]) := by
  refine wfn (lk := [0]) rfl rfl (fnW_way (q32 _ _ xs.isEmpty (ints xs) [] ((xs.length - rem.length : Nat) : Int) b _) ?_)
  refine ⟨_, _, _, _, _, _, w_next h hs b, ?_⟩
  have hk := next_small h hs b
  have hs0 := (nextR_suf rem b).trans hs
  unfold rowR
  generalize nextR rem b = x at hk hs0 ⊢
  obtain ⟨n, r0, b0⟩ := x
  dsimp only at hk hs0 ⊢
  have h1 := blk_fun (F := F) (d := d32) (lk := [0]) (p := [1,1,1,0,1,0,0]) (p0 := [1,1,1,0,1]) (id := 0) (by kernel_rfl) (st := fun (x : List Int × List Int × Bool) => [(0, iCu xs x.2.1 x.2.2), (3, .own x.1.isEmpty 3 1 (ints x.1)), (4, iI n), (5, iI x.1.length)]) (I := fun x => x.1.length ≤ n.toNat ∧ x.2.1 <:+ xs) (μ := fun x => n.toNat - x.1.length)
    (res := fun x => .norm [(0, iCu xs (rowN (n.toNat - x.1.length) x.2.1 x.2.2).2.1 (rowN (n.toNat - x.1.length) x.2.1 x.2.2).2.2), (3, .own (x.1 ++ (rowN (n.toNat - x.1.length) x.2.1 x.2.2).1).isEmpty 3 1 (ints (x.1 ++ (rowN (n.toNat - x.1.length) x.2.1 x.2.2).1))), (4, iI n), (5, iI (x.1 ++ (rowN (n.toNat - x.1.length) x.2.1 x.2.2).1).length)])
    (fun x hx => by
      obtain ⟨ys, r, c⟩ := x
      obtain ⟨hx1, hx2⟩ := hx
      dsimp only at hx1 hx2 ⊢
      by_cases hlt : ys.length < n.toNat
      · have e1 : n.toNat - ys.length = (n.toNat - (ys.length + 1)) + 1 := by omega
        cases c with
        | true =>
          refine .stop (.exit 0 [(0, iCu xs r true), (3, .own ys.isEmpty 3 1 (ints ys)), (4, iI n), (5, iI ys.length)]) (wpQ_way (q32_l0a _ _ xs.isEmpty (ints xs) [] ((xs.length - r.length : Nat) : Int) true ys.isEmpty (ints ys) n ys.length _) (condW_t (decide_eq_true (by omega)) (condW_t rfl rfl))) rfl ?_
          rw [e1]
          simp [rowN, blkO]
        | false =>
          refine .go (ys ++ [(nextR r false).1], (nextR r false).2.1, (nextR r false).2.2) (wpQ_way (q32_l0a _ _ xs.isEmpty (ints xs) [] ((xs.length - r.length : Nat) : Int) false ys.isEmpty (ints ys) n ys.length _) ?_) ⟨by simp; omega, (nextR_suf r false).trans hx2⟩ (by simp; omega) ?_
          · have k1 : (ints ys).length + (0 + 1) ≤ 9223372036854775807 := by rw [ints_len]; omega
            have k2 : ((ints ys).length + (0 + 1)) * 8 ≤ 140737488355328 := by rw [ints_len]; omega
            have k3 : IntKind.wrap .i64 ((ys.length : Int) + 1) = ((ys.length + 1 : Nat) : Int) := by rw [Go.Ab.wr _ (by omega) (by omega)]; omega
            refine condW_t (decide_eq_true (by omega)) (condW_f rfl ⟨_, _, _, _, _, _, w_next h hx2 false, condW_t (decide_eq_true k1) (condW_t (decide_eq_true k2) ?_)⟩)
            rw [Bool.and_false, ints_snoc, k3, snoc_empty, List.length_append, List.length_singleton]
          · dsimp only
            rw [List.length_append, List.length_singleton, e1]
            simp only [rowN, List.append_assoc, List.singleton_append, Bool.false_eq_true, if_false]
      · have e1 : n.toNat - ys.length = 0 := by omega
        refine .stop (.exit 0 [(0, iCu xs r c), (3, .own ys.isEmpty 3 1 (ints ys)), (4, iI n), (5, iI ys.length)]) (wpQ_way (q32_l0a _ _ xs.isEmpty (ints xs) [] ((xs.length - r.length : Nat) : Int) c ys.isEmpty (ints ys) n ys.length _) (condW_f (decide_eq_false (by omega)) rfl)) rfl ?_
        rw [e1]
        simp [rowN, blkO]) ([], r0, b0) ⟨Nat.zero_le _, hs0⟩
  simp only [List.length_nil, Nat.sub_zero, List.nil_append] at h1
  exact ⟨_, _, _, _, _, _, _, _, _, h1, rfl⟩
theorem w_fcl {xs rem : List Int} (h : XsOk xs) (hs : rem <:+ xs) (b : Bool) : C 31 [iCu xs rem b] = some (.own (litsR rem b).1.isEmpty 55 2 (lits (litsR rem b).1), [iCu xs (litsR rem b).2.1 (litsR rem b).2.2]) := by
  refine wfn (lk := [0]) rfl rfl (fnW_way (q31 _ _ xs.isEmpty (ints xs) [] ((xs.length - rem.length : Nat) : Int) b _) ?_)
  refine ⟨_, _, _, _, _, _, w_next h hs b, ?_⟩
  have hk := next_small h hs b
  have hs0 := (nextR_suf rem b).trans hs
  unfold litsR
  generalize nextR rem b = x at hk hs0 ⊢
  obtain ⟨n, r0, b0⟩ := x
  dsimp only at hk hs0 ⊢
  have h1 := blk_fun (F := F) (d := d31) (lk := [0]) (p := [1,1,1,0,1,0,0]) (p0 := [1,1,1,0,1]) (id := 0) (by kernel_rfl) (st := fun (x : List LitR × List Int × Bool) => [(0, iCu xs x.2.1 x.2.2), (3, .own x.1.isEmpty 55 2 (lits x.1)), (4, iI n), (5, iI x.1.length)]) (I := fun x => x.1.length ≤ n.toNat ∧ x.2.1 <:+ xs) (μ := fun x => n.toNat - x.1.length)
    (res := fun x => .norm [(0, iCu xs (litsRN (n.toNat - x.1.length) x.2.1 x.2.2).2.1 (litsRN (n.toNat - x.1.length) x.2.1 x.2.2).2.2), (3, .own (x.1 ++ (litsRN (n.toNat - x.1.length) x.2.1 x.2.2).1).isEmpty 55 2 (lits (x.1 ++ (litsRN (n.toNat - x.1.length) x.2.1 x.2.2).1))), (4, iI n), (5, iI (x.1 ++ (litsRN (n.toNat - x.1.length) x.2.1 x.2.2).1).length)])
    (fun x hx => by
      obtain ⟨ys, r, c⟩ := x
      obtain ⟨hx1, hx2⟩ := hx
      dsimp only at hx1 hx2 ⊢
      by_cases hlt : ys.length < n.toNat
      · have e1 : n.toNat - ys.length = (n.toNat - (ys.length + 1)) + 1 := by omega
        cases c with
        | true =>
          refine .stop (.exit 0 [(0, iCu xs r true), (3, .own ys.isEmpty 55 2 (lits ys)), (4, iI n), (5, iI ys.length)]) (wpQ_way (q31_l0a _ _ xs.isEmpty (ints xs) [] ((xs.length - r.length : Nat) : Int) true ys.isEmpty (lits ys) n ys.length _) (condW_t (decide_eq_true (by omega)) (condW_t rfl rfl))) rfl ?_
          rw [e1]
          simp [litsRN, blkO]
        | false =>
          refine .go (ys ++ [(litR r false).1], (litR r false).2.1, (litR r false).2.2) (wpQ_way (q31_l0a _ _ xs.isEmpty (ints xs) [] ((xs.length - r.length : Nat) : Int) false ys.isEmpty (lits ys) n ys.length _) ?_) ⟨by simp; omega, (litR_suf r false).trans hx2⟩ (by simp; omega) ?_
          · have k1 : (lits ys).length + (0 + 1) ≤ 9223372036854775807 := by rw [lits_len]; omega
            have k2 : ((lits ys).length + (0 + 1)) * 32 ≤ 140737488355328 := by rw [lits_len]; omega
            have k3 : IntKind.wrap .i64 ((ys.length : Int) + 1) = ((ys.length + 1 : Nat) : Int) := by rw [Go.Ab.wr _ (by omega) (by omega)]; omega
            have hne : (ys ++ [(litR r false).1]).isEmpty = false := by cases ys <;> rfl
            have k4 := w_frow h ((nextR_suf r false).trans hx2) (nextR r false).2.2
            have k5 : lits (ys ++ [(litR r false).1]) = lits ys ++ [.agg [.bool ((nextR r false).1 == 1), .sl 1 (rowR (nextR r false).2.1 (nextR r false).2.2).1.isEmpty (ints (rowR (nextR r false).2.1 (nextR r false).2.2).1) []]] := by
              simp [lits, litR, LitR.d, mkRow]
            rw [k5, hne, List.length_append, List.length_singleton]
            refine condW_t (decide_eq_true (by omega)) (condW_f rfl ⟨_, _, _, _, _, _, w_next h hx2 false, ?_⟩)
            cases hn : (nextR r false).1 == 1 with
            | true =>
              refine condW_t rfl ⟨_, _, _, _, _, _, _, k4, condW_t (decide_eq_true k1) (condW_t (decide_eq_true k2) ?_)⟩
              rw [Bool.and_false, k3]
              rfl
            | false =>
              refine condW_f rfl ⟨_, _, _, _, _, _, _, k4, condW_t (decide_eq_true k1) (condW_t (decide_eq_true k2) ?_)⟩
              rw [Bool.and_false, k3]
              rfl
          · dsimp only
            rw [List.length_append, List.length_singleton, e1]
            simp only [litsRN, List.append_assoc, List.singleton_append, Bool.false_eq_true, if_false]
      · have e1 : n.toNat - ys.length = 0 := by omega
        refine .stop (.exit 0 [(0, iCu xs r c), (3, .own ys.isEmpty 55 2 (lits ys)), (4, iI n), (5, iI ys.length)]) (wpQ_way (q31_l0a _ _ xs.isEmpty (ints xs) [] ((xs.length - r.length : Nat) : Int) c ys.isEmpty (lits ys) n ys.length _) (condW_f (decide_eq_false (by omega)) rfl)) rfl ?_
        rw [e1]
        simp [litsRN, blkO]) ([], r0, b0) ⟨Nat.zero_le _, hs0⟩
  simp only [List.length_nil, Nat.sub_zero, List.nil_append] at h1
  exact ⟨_, _, _, _, _, _, _, _, _, h1, rfl⟩
def readRI (g : List Sym) (t : ByteArray) : IV := match readR g t with
  | none => .tup [.d noStep, iI 1700]
  | some s => .tup [.agg [iI s.r, iI s.a, iI s.i, iI s.s, iI s.b, iI s.j, iI s.t, .own s.c.lz 55 2 (lits s.c.ls), .own s.c.tz 48 1 (rws s.c.ts), .own s.c.cz 55 2 (lits s.c.cs)], iI 0]
theorem w_fread (z : Bool) (g : List Sym) (e : List D) {t : ByteArray} (ht : t.size ≤ 4000) : C 14 [iG z g e, .d (.str t)] = some (readRI g t, [iG z g e, .d (.str t)]) := by
  refine wfn (lk := []) rfl rfl (fnW_way (q14 _ _ z (syms g) e t _) ?_)
  refine ⟨_, _, _, w_fwords ht, ?_⟩
  have hl : t.data.toList.length = t.size := ba_len t
  have hX : XsOk (wordsL t.data.toList) := ⟨by have := wordsL_len _ t.data.toList (Nat.le_refl _); omega, wordsL_small _ _ (Nat.le_refl _)⟩
  unfold readRI readR
  generalize wordsL t.data.toList = xs at hX ⊢
  have k0 : xs <:+ xs := List.suffix_refl _
  have ein : (.dbox 68 0 [.sl 1 xs.isEmpty (ints xs) [], .int .i64 0, .bool false] : IV) = iCu xs xs false := by
    unfold iCu
    rw [Nat.sub_self]
    rfl
  rw [ein]
  obtain ⟨x1, h1⟩ : ∃ x, nextR xs false = x := ⟨_, rfl⟩
  have c1 := w_next hX k0 false
  have k1 : x1.2.1 <:+ xs := by rw [← h1]; exact (nextR_suf _ _).trans k0
  rw [h1] at c1
  obtain ⟨x2, h2⟩ : ∃ x, nextR x1.2.1 x1.2.2 = x := ⟨_, rfl⟩
  have c2 := w_next hX k1 x1.2.2
  have k2 : x2.2.1 <:+ xs := by rw [← h2]; exact (nextR_suf _ _).trans k1
  rw [h2] at c2
  obtain ⟨x3, h3⟩ : ∃ x, nextR x2.2.1 x2.2.2 = x := ⟨_, rfl⟩
  have c3 := w_next hX k2 x2.2.2
  have k3 : x3.2.1 <:+ xs := by rw [← h3]; exact (nextR_suf _ _).trans k2
  rw [h3] at c3
  obtain ⟨x4, h4⟩ : ∃ x, nextR x3.2.1 x3.2.2 = x := ⟨_, rfl⟩
  have c4 := w_next hX k3 x3.2.2
  have k4 : x4.2.1 <:+ xs := by rw [← h4]; exact (nextR_suf _ _).trans k3
  rw [h4] at c4
  obtain ⟨x5, h5⟩ : ∃ x, nextR x4.2.1 x4.2.2 = x := ⟨_, rfl⟩
  have c5 := w_next hX k4 x4.2.2
  have k5 : x5.2.1 <:+ xs := by rw [← h5]; exact (nextR_suf _ _).trans k4
  rw [h5] at c5
  obtain ⟨x6, h6⟩ : ∃ x, nextR x5.2.1 x5.2.2 = x := ⟨_, rfl⟩
  have c6 := w_next hX k5 x5.2.2
  have k6 : x6.2.1 <:+ xs := by rw [← h6]; exact (nextR_suf _ _).trans k5
  rw [h6] at c6
  obtain ⟨x7, h7⟩ : ∃ x, nextR x6.2.1 x6.2.2 = x := ⟨_, rfl⟩
  have c7 := w_next hX k6 x6.2.2
  have k7 : x7.2.1 <:+ xs := by rw [← h7]; exact (nextR_suf _ _).trans k6
  rw [h7] at c7
  obtain ⟨y1, g1⟩ : ∃ x, litsR x7.2.1 x7.2.2 = x := ⟨_, rfl⟩
  have d1 := w_fcl hX k7 x7.2.2
  have k8 : y1.2.1 <:+ xs := by rw [← g1]; exact (litsR_suf _ _).trans k7
  rw [g1] at d1
  obtain ⟨y2, g2⟩ : ∃ x, tupsR y1.2.1 y1.2.2 = x := ⟨_, rfl⟩
  have k9 : y2.2.1 <:+ xs := by rw [← g2]; exact (tupsR_suf _ _).trans k8
  obtain ⟨y3, g3⟩ : ∃ x, litsR y2.2.1 y2.2.2 = x := ⟨_, rfl⟩
  have d3 := w_fcl hX k9 y2.2.2
  rw [g3] at d3
  rw [stepR_eq h1 h2 h3 h4 h5 h6 h7 g1 g2 g3]
  have d2 := w_next hX k8 y1.2.2
  have hk := next_small hX k8 y1.2.2
  have hs0 := (nextR_suf y1.2.1 y1.2.2).trans k8
  unfold tupsR at g2
  generalize nextR y1.2.1 y1.2.2 = q at d2 hk hs0 g2
  obtain ⟨n, r0, b0⟩ := q
  dsimp only at d2 hk hs0 g2
  refine ⟨_, _, _, _, _, _, c1, _, _, _, _, _, _, c2, _, _, _, _, _, _, c3, _, _, _, _, _, _, c4, _, _, _, _, _, _, c5, _, _, _, _, _, _, c6, _, _, _, _, _, _, c7, _, _, _, _, _, _, _, d1, _, _, _, _, _, _, d2, ?_⟩
  clear c1 c2 c3 c4 c5 c6 c7 d1 d2
  have l1 := blk_fun (F := F) (d := d14) (lk := []) (p := [1,1,1,1,1,1,1,1,1,1,1,0,1,0,0]) (p0 := [1,1,1,1,1,1,1,1,1,1,1,0,1]) (id := 0) (by kernel_rfl) (st := fun (x : List Row × List Int × Bool) => [(0, iG z g e), (1, .d (.str t)), (4, .dbox 28 0 [.int .i64 0, .int .i64 0, .int .i64 0, .int .i64 0, .int .i64 0, .int .i64 0, .int .i64 0, .sl 2 true [] [], .sl 1 true [] [], .sl 2 true [] []]), (6, iCu xs x.2.1 x.2.2), (7, .ptr 28 0 [iI x1.1, iI x2.1, iI x3.1, iI x4.1, iI x5.1, iI x6.1, iI x7.1, .own y1.1.isEmpty 55 2 (lits y1.1), .own x.1.isEmpty 48 1 (rws x.1), .d (.sl 2 true [] [])]), (8, iI n), (9, iI x.1.length)]) (I := fun x => x.1.length ≤ n.toNat ∧ x.2.1 <:+ xs) (μ := fun x => n.toNat - x.1.length)
    (res := fun x => .norm [(0, iG z g e), (1, .d (.str t)), (4, .dbox 28 0 [.int .i64 0, .int .i64 0, .int .i64 0, .int .i64 0, .int .i64 0, .int .i64 0, .int .i64 0, .sl 2 true [] [], .sl 1 true [] [], .sl 2 true [] []]), (6, iCu xs (tupsRN (n.toNat - x.1.length) x.2.1 x.2.2).2.1 (tupsRN (n.toNat - x.1.length) x.2.1 x.2.2).2.2), (7, .ptr 28 0 [iI x1.1, iI x2.1, iI x3.1, iI x4.1, iI x5.1, iI x6.1, iI x7.1, .own y1.1.isEmpty 55 2 (lits y1.1), .own (x.1 ++ (tupsRN (n.toNat - x.1.length) x.2.1 x.2.2).1).isEmpty 48 1 (rws (x.1 ++ (tupsRN (n.toNat - x.1.length) x.2.1 x.2.2).1)), .d (.sl 2 true [] [])]), (8, iI n), (9, iI (x.1 ++ (tupsRN (n.toNat - x.1.length) x.2.1 x.2.2).1).length)])
    (fun x hx => by
      obtain ⟨ys, r, c⟩ := x
      obtain ⟨hx1, hx2⟩ := hx
      dsimp only at hx1 hx2 ⊢
      by_cases hlt : ys.length < n.toNat
      · have e1 : n.toNat - ys.length = (n.toNat - (ys.length + 1)) + 1 := by omega
        cases c with
        | true =>
          refine .stop (.exit 0 _) (wpQ_way (q14_l0a _ _ z (syms g) e t 0 0 0 0 0 0 0 xs.isEmpty (ints xs) [] ((xs.length - r.length : Nat) : Int) true x1.1 x2.1 x3.1 x4.1 x5.1 x6.1 x7.1 y1.1.isEmpty (lits y1.1) ys.isEmpty (rws ys) n ys.length _) (condW_t (decide_eq_true (by omega)) (condW_t rfl rfl))) rfl ?_
          rw [e1]
          simp [tupsRN, blkO]
        | false =>
          refine .go (ys ++ [mkRow (rowR r false).1], (rowR r false).2.1, (rowR r false).2.2) (wpQ_way (q14_l0a _ _ z (syms g) e t 0 0 0 0 0 0 0 xs.isEmpty (ints xs) [] ((xs.length - r.length : Nat) : Int) false x1.1 x2.1 x3.1 x4.1 x5.1 x6.1 x7.1 y1.1.isEmpty (lits y1.1) ys.isEmpty (rws ys) n ys.length _) ?_) ⟨by simp; omega, (rowR_suf r false).trans hx2⟩ (by simp; omega) ?_
          · have m1 : (rws ys).length + (0 + 1) ≤ 9223372036854775807 := by rw [rws_len]; omega
            have m2 : ((rws ys).length + (0 + 1)) * 24 ≤ 140737488355328 := by rw [rws_len]; omega
            have m3 : IntKind.wrap .i64 ((ys.length : Int) + 1) = ((ys.length + 1 : Nat) : Int) := by rw [Go.Ab.wr _ (by omega) (by omega)]; omega
            have hne : (ys ++ [mkRow (rowR r false).1]).isEmpty = false := by cases ys <;> rfl
            have m5 : rws (ys ++ [mkRow (rowR r false).1]) = rws ys ++ [.sl 1 (rowR r false).1.isEmpty (ints (rowR r false).1) []] := by
              simp [rws, Row.d, mkRow]
            rw [m5, hne, List.length_append, List.length_singleton]
            refine condW_t (decide_eq_true (by omega)) (condW_f rfl ⟨_, _, _, _, _, _, _, w_frow hX hx2 false, condW_t (decide_eq_true m1) (condW_t (decide_eq_true m2) ?_)⟩)
            rw [Bool.and_false, m3]
          · dsimp only
            rw [List.length_append, List.length_singleton, e1]
            simp only [tupsRN, List.append_assoc, List.singleton_append, Bool.false_eq_true, if_false]
      · have e1 : n.toNat - ys.length = 0 := by omega
        refine .stop (.exit 0 _) (wpQ_way (q14_l0a _ _ z (syms g) e t 0 0 0 0 0 0 0 xs.isEmpty (ints xs) [] ((xs.length - r.length : Nat) : Int) c x1.1 x2.1 x3.1 x4.1 x5.1 x6.1 x7.1 y1.1.isEmpty (lits y1.1) ys.isEmpty (rws ys) n ys.length _) (condW_f (decide_eq_false (by omega)) rfl)) rfl ?_
        rw [e1]
        simp [tupsRN, blkO]) ([], r0, b0) ⟨Nat.zero_le _, hs0⟩
  simp only [List.length_nil, Nat.sub_zero, List.nil_append] at l1
  rw [g2] at l1
  refine ⟨_, _, _, _, _, _, _, _, _, _, _, _, _, _, _, _, _, _, _, _, _, _, _, _, _, _, _, _, _, l1, ?_⟩
  refine ⟨_, _, _, _, _, _, _, d3, ?_⟩
  obtain ⟨s, hs⟩ : ∃ s : Stp, s = ⟨x1.1, x2.1, x3.1, x4.1, x5.1, x6.1, x7.1, ⟨y1.1.isEmpty, y1.1, [], y2.1.isEmpty, y2.1, [], y3.1.isEmpty, y3.1, []⟩⟩ := ⟨_, rfl⟩
  have hw := w_fwrite z g e s
  dsimp only
  rw [← hs]
  have hw2 := hw
  rw [hs] at hw2
  refine ⟨_, _, _, _, hw2, ?_⟩
  rw [← hs]
  clear hw hw2
  cases hb : y3.2.2 with
  | true =>
    rw [if_neg (by simp)]
    exact condW_t rfl rfl
  | false =>
    refine condW_f rfl ?_
    cases hq : mayB g s with
    | false =>
      rw [if_neg (by simp), show errF g s = 1700 by simp [errF, hq]]
      exact condW_t rfl rfl
    | true =>
      rw [show errF g s = 0 by simp [errF, hq], show txtF g s = textOf (stepNs s) by simp [txtF, hq], toList_beq]
      refine condW_f rfl ?_
      by_cases ht2 : textOf (stepNs s) = t
      · rw [if_pos ⟨rfl, rfl, ht2⟩, decide_eq_true ht2]
        subst hs
        exact condW_f rfl rfl
      · rw [if_neg (fun h => ht2 h.2.2), decide_eq_false ht2]
        exact condW_t rfl rfl
def noS : Stp := ⟨0, 0, 0, 0, 0, 0, 0, ⟨true, [], [], true, [], [], true, [], []⟩⟩
theorem new_in {g : List Sym} {s : Stp} (h : mayB g s = true) : ClIn (Qu.newT s).c := by
  have ok := may_ok h
  have h2 := h
  simp only [mayB, Bool.and_eq_true] at h2
  have c := cl_facts h2.2
  have := c.n1
  have := c.n2
  have := c.n3
  have len : ∀ l : List Int, NumsOk l → Len l := fun l hl => by have := hl.1; unfold Len; omega
  refine ⟨⟨by simp [Qu.newT, newC]; omega, fun l hl => ?_⟩, by simp [Qu.newT, newC]; omega, fun r hr => ?_, ⟨by simp [Qu.newT, newC]; omega, fun l hl => ?_⟩⟩
  · simp only [Qu.newT, newC, List.mem_map] at hl
    obtain ⟨x, hx, rfl⟩ := hl
    exact len _ (ok.ls x hx)
  · simp only [Qu.newT, newC, List.mem_map] at hr
    obtain ⟨x, hx, rfl⟩ := hr
    exact len _ (ok.ts x hx)
  · simp only [Qu.newT, newC, List.mem_map] at hl
    obtain ⟨x, hx, rfl⟩ := hl
    exact len _ (ok.cs x hx)
theorem law_reads (z : Bool) (g : List Sym) (e : List D) (t : ByteArray) : C 4 [iG z g e, .d (.str t)] = some (iB true, [iG z g e, .d (.str t)]) := by
  refine wfn (lk := []) rfl rfl (fnW_way (q4 _ _ z (syms g) e t _) ?_)
  by_cases ht : (t.size : Int) > 4000
  · exact condW_t (decide_eq_true ht) rfl
  refine condW_f (decide_eq_false ht) ?_
  have r1 := w_read z g e (t := t) (by omega)
  have r2 := w_fread z g e (t := t) (by omega)
  unfold readI at r1
  unfold readRI at r2
  have hi : ∀ n : Int, (n == n) = true := fun n => by simp
  rcases read_same g t with ⟨a1, a2⟩ | ⟨s, hm, a1, a2⟩
  · rw [a1] at r1
    rw [a2] at r2
    unfold noStep at r1 r2
    have hin : ClIn noS.c := ⟨⟨by simp [noS], by simp [noS]⟩, by simp [noS], by simp [noS], ⟨by simp [noS], by simp [noS]⟩⟩
    have sm := w_samestep hin noS
    rw [decide_eq_true rfl] at sm
    exact .inl ⟨_, _, _, _, _, _, _, _, _, _, r1, .inl ⟨_, _, _, _, _, _, _, _, _, _, r2, _, _, _, sm, condW_t rfl ⟨_, _, w_errnum _, condW_t (hi _) ⟨_, w_awake, condW_t rfl rfl⟩⟩⟩⟩
  · rw [a1] at r1
    rw [a2] at r2
    have sm := w_samestep (new_in hm) (Qu.newT s)
    rw [decide_eq_true rfl] at sm
    exact .inr ⟨_, _, _, _, _, _, _, _, _, _, _, _, _, _, _, _, r1, .inr ⟨_, _, _, _, _, _, _, _, _, _, _, _, _, _, _, _, r2, _, _, _, sm, condW_t rfl ⟨_, _, w_errnum _, condW_t (hi _) ⟨_, w_awake, condW_t rfl rfl⟩⟩⟩⟩
theorem call_stepreads (y0 y1 : D) (g0 : Go.Ab.Good Tryz.prog 12 22 y0) (g1 : Go.Ab.Good Tryz.prog 12 9 y1) : ∃ outs, C 4 [.d y0, .d y1] = some (iB true, outs) := by
  obtain ⟨z, g, rfl⟩ := good_sig g0
  obtain ⟨t, rfl⟩ : ∃ t : ByteArray, y1 = .str t := by
    unfold Go.Ab.Good at g1
    rw [Tryz.underlying9] at g1
    obtain ⟨s, rfl, _⟩ := g1
    exact ⟨s, rfl⟩
  exact ⟨_, law_reads z g [] t⟩
end Go.Proofs.YtjoibdmiolcodaaGreatDoor.Ab
