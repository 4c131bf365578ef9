/- What comes in as an argument is data of the plain evaluator, whatever its type. No condition. -/
import Derived.ChangeArms
import Derived.Deep.Slices
import Derived.SizedLaws
import Derived.WideShapes
import Derived.Test.YtjhganbjbiihoaaDoorClauses0
import Derived.Test.YtjhganbjbiihoaaDoorClauses1
import Derived.Test.YtjhganbjbiihoaaDoorClauses2
import Derived.Test.YtjhganbjbiihoaaDoorClauses3
import Derived.Test.YtjhganbjbiihoaaDoorClauses4
import Derived.Test.YtjhganbjbiihoaaDoorClauses5
import Derived.Test.YtjhganbjbiihoaaDoorClauses6
import Derived.Test.YtjhganbjbiihoaaDoorClauses7
import Derived.Test.YtjhganbjbiihoaaDoorClauses8
import Derived.Test.YtjhganbjbiihoaaDoorClauses9
import Derived.Test.YtjhganbjbiihoaaDoorClauses10
import Derived.Test.YtjhganbjbiihoaaDoorClauses11
import Derived.Test.YtjhganbjbiihoaaDoorClauses12
import Derived.Test.YtjhganbjbiihoaaDoorClauses13
import Derived.Test.YtjhganbjbiihoaaDoorClauses14
import Derived.Test.YtjhganbjbiihoaaDoorClauses15
set_option linter.unusedVariables false
set_option linter.unusedSimpArgs false
namespace Go.Ab
open Go Go.Deep Go.WideShapes

def GoodL (G : TypeId → D → Prop) : List TypeId → List D → Prop
  | [], ys => ys = []
  | t :: ts, ys => ∃ y r, ys = y :: r ∧ G t y ∧ GoodL G ts r
/-- What stands for a value of a type. -/
def Good (P : Program) : Nat → TypeId → D → Prop
  | 0, _, _ => False
  | n + 1, t, x => match P.underlying t with
    | some (.int k) => ∃ m, x = .int k m ∧ (Lit.int k m).wf = true
    | some .bool => ∃ b, x = .bool b
    | some .string => ∃ s, x = .str s ∧ s.size ≤ reachBytes
    | some (.slice e) => ∃ z xs, x = .sl (P.cellsOf e) z xs [] ∧ xs.length * P.bytesOf e ≤ reachBytes ∧ (∀ y ∈ xs, Good P n e y) ∧ (z = true → xs = [])
    | some (.struct fs) => ∃ ys, x = .agg (ys.flatMap D.cells) ∧ GoodL (Good P n) (fs.toList.map (·.type)) ys
    | _ => False
def fieldsOk (P : Program) : List Field → Nat → Nat → Bool
  | [], off, tot => off == tot
  | f :: fs, off, tot => f.offset == off && fieldsOk P fs (off + P.cellsOf f.type) tot
def okT (P : Program) : Nat → TypeId → Bool
  | 0, _ => false
  | n + 1, t => match P.underlying t with
    | some (.int _) => true
    | some .bool => true
    | some .string => true
    | some (.slice e) => okT P n e
    | some (.struct fs) => fs.toList.all (fun f => okT P n f.type) && fieldsOk P fs.toList 0 (P.cellsOf t)
    | _ => false
theorem RepL_cells {H : Fz} : ∀ {ys : List D} {c : List Value}, D.RepL H ys c → D.RepL H (ys.flatMap D.cells) c ∧ ∀ x ∈ ys.flatMap D.cells, x.isAgg = false
  | [], c, h => by unfold D.RepL at h; subst h; simp [D.RepL]
  | y :: ys, c, h => by
    unfold D.RepL at h
    obtain ⟨a, b, rfl, h1, h2⟩ := h
    have h3 := D.cells_Rep h1
    have h4 := RepL_cells h2
    rw [List.flatMap_cons]
    refine ⟨D.RepL.append h4.1 h3.1, fun x hx => ?_⟩
    rcases List.mem_append.1 hx with hx | hx
    · exact h3.2 x hx
    · exact h4.2 x hx
section
variable {H : Type} {enc : TypeId × Value → H} {P : Program} {w : World} {base : Nat} {spare : Nat → Bool} {held : Bool}
theorem rows_D {G : D → Prop} {a : Addr} {k : Nat} : ∀ (len : Nat), (∀ i, i < len → ∃ y cs', cs'.length = k ∧ (∀ (j : Nat) u, cs'[j]? = some u → w.cell? (a.add (i * k + j)) = some u) ∧ D.Rep (Hw w) y cs' ∧ G y) →
    ∃ ys c1, ys.length = len ∧ D.RepL (Hw w) ys c1 ∧ c1.length = len * k ∧ (∀ (j : Nat) u, c1[j]? = some u → w.cell? (a.add j) = some u) ∧ ∀ y ∈ ys, G y ∧ y.width = k
  | 0, h => ⟨[], [], rfl, by unfold D.RepL; rfl, by simp, by simp, by simp⟩
  | len + 1, h => by
    obtain ⟨ys, c1, h1, h2, h3, h4, h5⟩ := rows_D len (fun i hi => h i (by omega))
    obtain ⟨y, cs', g1, g2, g3, g4⟩ := h len (Nat.lt_succ_self len)
    refine ⟨ys ++ [y], c1 ++ cs', by simp [h1], D.RepL.append (by unfold D.RepL; exact ⟨cs', [], by simp, g3, by unfold D.RepL; rfl⟩) h2, by simp [h3, g1, Nat.add_mul], fun j u hj => ?_, fun x hx => ?_⟩
    · by_cases hlt : j < c1.length
      · rw [List.getElem?_append_left hlt] at hj
        exact h4 j u hj
      · rw [List.getElem?_append_right (by omega)] at hj
        have := g2 _ _ hj
        rw [h3] at this
        rwa [show len * k + (j - len * k) = j by omega] at this
    · rcases List.mem_append.1 hx with hx | hx
      · exact h5 x hx
      · simp at hx; subst hx
        exact ⟨g4, by rw [← D.Rep.len x cs' g3, g1]⟩
theorem weightsAll_range (e : TypeId) (D' : Nat → DataW H) {n : Nat} : ∀ (m : Nat), (DataW.weightsAll P e ((List.range' n m).map D')).all (· ≤ reachBytes) = true → ∀ i, n ≤ i → i < n + m → ((D' i).weights P e).all (· ≤ reachBytes) = true := by
  intro m
  induction m generalizing n with
  | zero => intro h i h1 h2; omega
  | succ m ih =>
    intro h i h1 h2
    rw [List.range'_succ, List.map_cons, DataW.weightsAll, List.all_append, Bool.and_eq_true] at h
    by_cases hi : i = n
    · subst hi; exact h.1
    · exact ih h.2 i (by omega) (by omega)
theorem to_D : ∀ (n : Nat) (t : TypeId) {fuel : Nat} {cs : List Value} {x : DataW H × List MemPlace}, okT P n t = true → DataW.trod enc P w base spare held fuel t cs = some x → (x.1.weights P t).all (· ≤ reachBytes) = true → ∃ y, Good P n t y ∧ D.Rep (Hw w) y cs
  | 0, t, fuel, cs, x, ho, h, hw => by simp [okT] at ho
  | n + 1, t, fuel, cs, x, ho, h, hw => by
    unfold okT at ho
    unfold Good
    cases ht : P.underlying t with
    | none => rw [ht] at ho; simp at ho
    | some d =>
      rw [ht] at ho
      cases d <;> simp only at ho ⊢ <;> first | (cases ho; done) | skip
      case bool =>
        obtain ⟨b, rfl, _⟩ := DataW.trod_bool ht h
        exact ⟨.bool b, ⟨b, rfl⟩, by unfold D.Rep; rfl⟩
      case int k =>
        obtain ⟨m, rfl, _, hwf⟩ := DataW.trod_int ht h
        exact ⟨.int k m, ⟨m, rfl, hwf⟩, by unfold D.Rep; rfl⟩
      case string =>
        obtain ⟨s, rfl, rfl, _⟩ := DataW.trod_string ht h
        refine ⟨.str s, ⟨s, rfl, ?_⟩, by unfold D.Rep; rfl⟩
        simp only [DataW.weights, List.all_cons, List.all_nil, Bool.and_true, decide_eq_true_eq] at hw
        have h2 : s.data.toList.length = s.size := Array.length_toList
        rw [← h2]; exact hw
      case slice e =>
        rcases open_slice ht h with ⟨rfl, rfl⟩ | ⟨a, len, cap, m, n', D', Pl, rfl, hb, hl, hc, hm, rfl, hi⟩
        · exact ⟨.sl (P.cellsOf e) true [] [], ⟨true, [], rfl, by simp, by simp, by simp⟩, by unfold D.Rep; exact .inl ⟨rfl, rfl, rfl, rfl⟩⟩
        · simp only [DataW.weights, ht, List.all_cons, List.all_append, Bool.and_eq_true, decide_eq_true_eq, List.length_map, List.length_range] at hw
          obtain ⟨hw1, hw2, hw3⟩ := hw
          have hle : len ≤ m := by rw [hm]; split <;> omega
          rw [List.range_eq_range'] at hw2
          have hel := weightsAll_range e D' len hw2
          obtain ⟨ys, c1, h1, h2, h3, h4, h5⟩ := rows_D (w := w) (G := Good P n e) (a := a) (k := P.cellsOf e) len (fun i hil => by
            obtain ⟨cs', hc', ht'⟩ := hi i (by omega)
            obtain ⟨y, hy1, hy2⟩ := to_D n e ho ht' (hel i (Nat.zero_le _) (by omega))
            obtain ⟨_, hcl, hat⟩ := World.cells?_some hc'
            refine ⟨y, cs', hcl, fun j u hj => ?_, hy2, hy1⟩
            have hjl : j < P.cellsOf e := by rw [← hcl]; exact (List.getElem?_eq_some_iff.1 hj).1
            have h6 := hat j hjl
            rw [hj] at h6
            rw [← h6, Go.Deep.add_add])
          refine ⟨.sl (P.cellsOf e) false ys [], ⟨false, ys, rfl, ?_, fun y hy => (h5 y hy).1, by simp⟩, ?_⟩
          · have : len * P.bytesOf e ≤ (len + (m - len)) * P.bytesOf e := Nat.mul_le_mul_right _ (by omega)
            rw [h1]; omega
          · unfold D.Rep
            refine .inr ⟨rfl, a, cap, c1, [], by rw [h1], by rw [h1]; simpa using hl, hc, fun j u hj => ?_, h2, by unfold D.RepL; rfl, fun y hy => (h5 y hy).2, by simp⟩
            rw [List.append_nil] at hj
            exact Hw.cell (h4 j u hj)
      case struct fs =>
        simp only [Bool.and_eq_true, List.all_eq_true] at ho
        obtain ⟨xs, n', hn', rfl, hlen, hxl, hf⟩ := DataW.trod_struct ht h
        simp only [DataW.weights, ht] at hw
        have key : ∀ (l : List Field) (i off : Nat) (ps : List (DataW H × List MemPlace)), fs.toList.drop i = l → xs.drop i = ps → fieldsOk P l off (P.cellsOf t) = true → (DataW.weightsEach P (l.map (·.type)) (ps.map (·.1))).all (· ≤ reachBytes) = true → ∃ ys, GoodL (Good P n) (l.map (·.type)) ys ∧ D.RepL (Hw w) ys (cs.drop off) := by
          intro l
          induction l with
          | nil =>
            intro i off ps hl hp hk hwt
            simp only [fieldsOk, beq_iff_eq] at hk
            refine ⟨[], rfl, ?_⟩
            rw [List.drop_of_length_le (by omega)]
            unfold D.RepL; rfl
          | cons f l ih =>
            intro i off ps hl hp hk hwt
            simp only [fieldsOk, Bool.and_eq_true, beq_iff_eq] at hk
            have hil : i < fs.size := by
              have : 0 < (fs.toList.drop i).length := by rw [hl]; simp
              simp at this; omega
            have hfi : fs[i]? = some f := by
              have : (fs.toList.drop i)[0]? = some f := by rw [hl]; rfl
              simpa using this
            have h1 := hf i f hfi
            have hxi : xs[i]? = some (xs[i]'(by omega)) := List.getElem?_eq_getElem (by omega)
            rw [hxi] at h1
            have hps : ps = xs[i]'(by omega) :: xs.drop (i + 1) := by rw [← hp]; exact List.drop_eq_getElem_cons (by omega)
            rw [hps] at hwt
            simp only [List.map_cons, DataW.weightsEach, List.all_append, Bool.and_eq_true] at hwt
            have hfm : f ∈ fs.toList := by rw [← Array.mem_def]; exact Array.mem_of_getElem? hfi
            obtain ⟨y, hy1, hy2⟩ := to_D n f.type (ho.1 f hfm) h1 hwt.1
            have hl' : fs.toList.drop (i + 1) = l := by
              have := congrArg List.tail hl
              simpa using this
            obtain ⟨ys, g1, g2⟩ := ih (i + 1) (off + P.cellsOf f.type) (xs.drop (i + 1)) hl' rfl hk.2 hwt.2
            refine ⟨y :: ys, ⟨y, ys, rfl, hy1, g1⟩, ?_⟩
            unfold D.RepL
            refine ⟨(cs.drop off).take (P.cellsOf f.type), cs.drop (off + P.cellsOf f.type), ?_, by rw [← hk.1]; exact hy2, g2⟩
            rw [← List.drop_drop, List.take_append_drop]
        obtain ⟨ys, g1, g2⟩ := key fs.toList 0 0 xs rfl rfl ho.2 hw
        rw [List.drop_zero] at g2
        have g3 := RepL_cells g2
        exact ⟨.agg (ys.flatMap D.cells), ⟨ys, rfl, g1⟩, by unfold D.Rep; exact g3⟩
/-- An argument. -/
theorem arg_D {r : Reach} {b0 : Nat} {n : Nat} {t : TypeId} {v : Value} {d : DataW H} {p : List MemPlace} (ho : okT P n t = true) (hv : Value.okWide P w r b0 t v) (h : DataW.Trod enc P w base spare held t v d p) (hw : (d.weights P t).all (· ≤ reachBytes) = true) : ∃ y, Good P n t y ∧ IV.Rep (Hw w) w (.d y) v [] := by
  obtain ⟨fuel, hf⟩ := h
  obtain ⟨y, h1, h2⟩ := to_D n t ho hf hw
  refine ⟨y, h1, ?_⟩
  unfold IV.Rep
  refine ⟨?_, rfl⟩
  cases n with
  | zero => simp [okT] at ho
  | succ n =>
    unfold okT at ho
    unfold Good at h1
    cases ht : P.underlying t with
    | none => rw [ht] at ho; simp at ho
    | some ty =>
      rw [ht] at ho h1
      cases ty <;> simp only at ho h1 <;> first | (cases ho; done) | skip
      case struct fs =>
        obtain ⟨cs, rfl, hsz⟩ := okWide_struct ht hv
        obtain ⟨ys, rfl, _⟩ := h1
        simp only [D.RepV]
        exact ⟨cs, rfl, by simpa [Value.cells] using h2⟩
      case bool =>
        obtain ⟨b, rfl⟩ := h1
        unfold D.Rep at h2
        obtain ⟨q, rfl⟩ := okWide_bool ht hv
        simp [Value.cells] at h2
        subst h2
        simp only [D.RepV]; unfold D.Rep; rfl
      case int k =>
        obtain ⟨m, rfl, _⟩ := h1
        unfold D.Rep at h2
        obtain ⟨q, rfl⟩ := okWide_int ht hv
        simp [Value.cells] at h2
        subst h2
        simp only [D.RepV]; unfold D.Rep; rfl
      case string =>
        obtain ⟨s, rfl, _⟩ := h1
        unfold D.Rep at h2
        obtain ⟨q, rfl⟩ := okWide_string ht hv
        simp [Value.cells] at h2
        subst h2
        simp only [D.RepV]; unfold D.Rep; rfl
      case slice e =>
        obtain ⟨a, l, c, rfl⟩ := okWide_slice ht hv
        obtain ⟨z, xs, rfl, _⟩ := h1
        simp only [D.RepV]
        simpa [Value.cells] using h2
end
theorem all_map {α : Type} {f : α → D} {Q : α → Prop} : ∀ {xs : List D}, (∀ y ∈ xs, ∃ s, y = f s ∧ Q s) → ∃ l : List α, xs = l.map f ∧ ∀ s ∈ l, Q s
  | [], h => ⟨[], rfl, by simp⟩
  | y :: xs, h => by
    obtain ⟨s, rfl, hs⟩ := h y (by simp)
    obtain ⟨l, rfl, hl⟩ := all_map (xs := xs) (fun y hy => h y (List.mem_cons_of_mem _ hy))
    exact ⟨s :: l, rfl, fun t ht => by rcases List.mem_cons.1 ht with rfl | ht; exact hs; exact hl t ht⟩
end Go.Ab
